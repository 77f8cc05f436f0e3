/- RleHead walked. -/
import Derived.Test.YtnpndkmcgpaibaaDoorDK
set_option linter.unusedVariables false
namespace Go.Proofs.YtnpndkmcgpaibaaDoor
open Go.RowKit Go.Sort
attribute [local go_sem high] eqA89

/-- a slice of strings that is read -/
def StrRow (w : World) (v : Value) (ls : List (List UInt8)) : Prop :=
  ∃ a cap, v = .slice a ls.length cap ∧ ls.length ≤ 9223372036854775807 ∧ ∀ i (h : i < ls.length), ∃ b o, a = some ⟨b, o, none⟩ ∧ b < w.heap.size ∧ w.cell? ⟨b, o + i, none⟩ = some (.string (S ls[i])) ∧ ls[i].length ≤ 9223372036854775807
theorem StrRow.below {w w' : World} {v : Value} {ls : List (List UInt8)} (h : StrRow w v ls) (hb : Below w.heap.size w w') : StrRow w' v ls := by
  obtain ⟨a, cap, rfl, hl, h⟩ := h
  refine ⟨a, cap, rfl, hl, fun i hi => ?_⟩
  obtain ⟨b, o, rfl, h1, h2, h3⟩ := h i hi
  exact ⟨b, o, rfl, Nat.lt_of_lt_of_le h1 hb.size, (hb.cell (p := ⟨b, o + i, none⟩) h1).trans h2, h3⟩

theorem lines_next (ls : List (List UInt8)) (k : Nat) (h : k < ls.length) : linesOf (ls.take (k + 1)) = linesOf (ls.take k) ++ lineOf ls[k] := by
  rw [List.take_succ_eq_append_getElem h, linesOf_snoc]
theorem filter_next (q : List UInt8) (j : Nat) (h : j < q.length) : (q.take (j + 1)).filter isLine = (q.take j).filter isLine ++ if isLine q[j] = true then [q[j]] else [] := by
  rw [List.take_succ_eq_append_getElem h, List.filter_append]
  congr 1
  cases hq : isLine q[j] with
  | true => rw [List.filter_cons_of_pos hq]; rfl
  | false => rw [List.filter_cons_of_neg (by rw [hq]; simp)]; rfl

set_option maxHeartbeats 16000000 in
set_option maxRecDepth 100000 in
theorem rhead_walk (rv : Value) (raw : List (Int × Int)) (x y : Int) (lv : Value) (ls : List (List UInt8)) (ruled : Bool) (w : World) (hg : Good5 w) (hr : RawRow w rv raw) (hrl : raw.length ≤ 140737488351232)
    (hx0 : -9223372036854775808 ≤ x) (hx1 : x ≤ 9223372036854775807) (hy0 : -9223372036854775808 ≤ y) (hy1 : y ≤ 9223372036854775807) (hls : StrRow w lv ls) :
    Calls Tryd.prog 11 #[rv, .int .i64 x, .int .i64 y, lv, .bool ruled] w fun e w' => e = .returned (.bool true) ∧ Below w.heap.size w w' := by
  have hs4 := hg.size
  go_enter Tryd.func11, Tryd.ntmps11
  go_wp2_with fail
  refine (awake5_walk _ hg).mono ?_
  rintro e w1 ⟨rfl, hb1⟩
  go_wp2_with fail
  refine (set_walk _ raw _ (by omega) (hr.below hb1)).mono ?_
  rintro e w2 ⟨sv, rfl, ho, hb2⟩
  replace hb2 := hb1.trans (hb2.mono hb1.size)
  have hln := setP_len raw
  obtain ⟨h, B0, oo, hP, hl, hol, htl, hq1, hq2⟩ := head_facts raw
  have hlr := crow_of_owns ho
  clear hr ho hb1
  generalize setP raw = l at *
  have HLN := mkHid hl
  have HQ2 := Lib.hid hq2
  clear hl hq2
  go_wp2_with fail
  refine (print_call _ l w2 (by omega) (hg.below hb2 hs4) hlr hP).mono ?_
  rintro e w3 ⟨rfl, hb3⟩
  replace hb3 := hb2.trans (hb3.mono hb2.size)
  replace hls := hls.below hb3
  clear hlr hb2 hP
  obtain ⟨B, hB⟩ : ∃ B, 10 :: B0 = B := ⟨_, rfl⟩
  have HB0 : Hid (B[0]? = some 10) := mkHid (by rw [← hB]; rfl)
  have hB1 : 1 ≤ B.length := by rw [← hB]; simp
  rw [hB] at htl hq1 HQ2 ⊢
  clear hB
  obtain ⟨t, ht⟩ : ∃ t, h ++ B = t := ⟨_, rfl⟩
  rw [ht] at htl hq1 ⊢
  have htz : t.length = h.length + B.length := by rw [← ht]; simp
  have hts := S_size t
  have HLO : Hid (∀ k, k < h.length → ∀ hk : k < t.length, isLine t[k] = true) := mkHid fun k hk hk2 => by
    subst ht
    rw [List.getElem_append_left hk]
    exact List.all_eq_true.1 HLN.out _ (List.getElem_mem _)
  have HTEN : Hid (∀ hk : h.length < t.length, t[h.length] = 10) := mkHid fun hk => by
    subst ht
    rw [List.getElem_append_right (Nat.le_refl _)]
    have := HB0.out
    rw [List.getElem?_eq_getElem (by omega)] at this
    simpa using this
  have HTK : Hid (t.drop h.length = B) := mkHid (by rw [← ht]; simp)
  clear ht
  go_wp2_with fail
  go_loopw [14] (fun i wr => ∃ k : Nat, k ≤ h.length ∧ i = .int .i64 k ∧ wr = w3) (fun i _ => h.length + 1 - (intOf i).toNat)
  case atStart => exact ⟨0, Nat.zero_le _, rfl, rfl⟩
  case round =>
    obtain ⟨k, hk, rfl, rfl⟩ := hrel
    have hget := S_get t k (by omega)
    have hkt' : (k : Int) < t.length := by omega
    by_cases hlt : k < h.length
    · have hq := HLO.out k hlt (by omega)
      generalize t[k]'(by omega) = cc at hget hq
      have h10 : ((cc.toNat : Int) != 10) = true := by
        rw [bne_iff_ne]; intro hh
        have : cc = 10 := UInt8.toNat_inj.1 (by show cc.toNat = 10; omega)
        rw [this] at hq; cases hq
      clear hq
      go_wp2_with fail
      exact ⟨⟨k + 1, by omega, by simp, trivial⟩, by simp [intOf]; omega⟩
    · have hkh : k = h.length := by omega
      subst hkh
      rw [HTEN.out (by omega)] at hget
      have hex : (S t).extract h.length t.length = S B := by rw [S_extract, List.take_length, HTK.out]
      have hex2 : (S t).extract h.length (h.length + B.length) = S B := by rw [← htz]; exact hex
      go_wp2_with fail
      clear hget hkt' hlt HLO HTEN hk hex
      generalize wr = w4 at *
      obtain ⟨la, lcap, rfl, hlz, hlc⟩ := hls
      have HLC := Lib.hid hlc
      clear hlc
      have hlz' : (ls.length : Int) ≤ 9223372036854775807 := by omega
      have hb40 := Below.refl w4.heap.size w4
      go_loopw [15, 16] (fun sv iv wr => ∃ n : Nat, n ≤ ls.length ∧ n ≤ 3 ∧ iv = .int .i64 n ∧ sv = .string (S (linesOf (ls.take n))) ∧ Below w4.heap.size w4 wr) (fun _ i _ => 4 - (intOf i).toNat)
      case atStart => exact ⟨0, Nat.zero_le _, by omega, rfl, by simp [linesOf, S], hb40⟩
      case round =>
        obtain ⟨n, hn, hn3, rfl, rfl, hbr⟩ := hrel
        have hpz := linesOf_len (ls.take n)
        rw [List.length_take] at hpz
        by_cases hlt : n < ls.length ∧ n < 3
        · obtain ⟨hlt1, hlt3⟩ := hlt
          have hlt1' : (n : Int) < ls.length := by omega
          have hlt3' : (n : Int) < 3 := by omega
          obtain ⟨lb, lo, rfl, hlb, hcell0, hcz⟩ := HLC.out n hlt1
          have hcell := (hbr.cell (p := ⟨lb, lo + n, none⟩) hlb).trans hcell0
          clear hcell0
          have HNX := mkHid (lines_next ls n hlt1)
          generalize ls[n] = q0 at *
          obtain ⟨P, hP⟩ : ∃ P, linesOf (ls.take n) = P := ⟨_, rfl⟩
          rw [hP] at hpz HNX ⊢
          clear hP
          have hq0 := S_size q0
          have hPs := S_size P
          have hq20 : (min (q0.length : Int) 20).toNat ≤ q0.length := by omega
          obtain ⟨q, hq⟩ : ∃ q, q0.take 20 = q := ⟨_, rfl⟩
          have hqe : (S q0).extract 0 (min (q0.length : Int) 20).toNat = S q := by
            rw [S_extract, List.drop_zero, ← hq]
            by_cases hz : q0.length ≤ 20
            · rw [List.take_of_length_le (by omega), List.take_of_length_le hz]
            · rw [show (min (q0.length : Int) 20).toNat = 20 from by omega]
          have hqz : q.length ≤ 20 := by rw [← hq, List.length_take]; omega
          have HLO : Hid (lineOf q0 = 35 :: (q.filter isLine ++ [10])) := mkHid (by unfold lineOf; rw [hq])
          clear hq
          have hqs := S_size q
          have hap1 : S P ++ ⟨#[35]⟩ = S (P ++ [35]) := by rw [show (⟨#[35]⟩ : ByteArray) = S [35] from rfl, S_append]
          go_wp2_with fail
          go_region
          have hbr2 := hbr.drew
          generalize wr.drew = w5 at *
          go_wp2_with fail
          clear hap1
          go_loopw [15, 18] (fun sv kv wr => ∃ j : Nat, j ≤ q.length ∧ kv = .int .i64 j ∧ sv = .string (S (P ++ 35 :: (q.take j).filter isLine)) ∧ wr = w5) (fun _ k _ => q.length + 1 - (intOf k).toNat)
          case atStart => exact ⟨0, Nat.zero_le _, rfl, by simp, rfl⟩
          case round =>
            obtain ⟨j, hj, rfl, rfl, rfl⟩ := hrel
            have hfl := List.length_filter_le isLine (q.take j)
            rw [List.length_take] at hfl
            by_cases hjq : j < q.length
            · have hjq' : (j : Int) < q.length := by omega
              have hget := S_get q j (by omega)
              have HF := mkHid (filter_next q j hjq)
              have hex2 : (S q).extract j (j + 1) = S [q[j]] := by
                rw [S_extract]
                congr 1
                rw [List.take_succ_eq_append_getElem hjq, List.drop_append_of_le_length (by rw [List.length_take]; omega), List.drop_of_length_le (by rw [List.length_take]; omega)]
                rfl
              generalize q[j] = c at *
              generalize (q.take j).filter isLine = F at *
              have hz1 := S_size (P ++ 35 :: F)
              have hz2 : (P ++ 35 :: F).length = P.length + (F.length + 1) := by simp
              have hc1 : (S [c]).size = 1 := by rw [S_size]; rfl
              have hap2 : S (P ++ 35 :: F) ++ S [c] = S (P ++ 35 :: (F ++ [c])) := by rw [S_append]; simp
              by_cases h10 : c = 10
              · have hh : ((c.toNat : Int) != 10) = false := by subst h10; rfl
                have hil : isLine c = false := by subst h10; rfl
                replace HF := HF.out
                rw [hil, if_neg (by simp), List.append_nil] at HF
                have HF2 := mkHid HF
                clear HF
                go_wp2_with fail
                exact ⟨⟨j + 1, by omega, by simp, by rw [HF2.out], trivial⟩, by simp [intOf]; omega⟩
              · have hh : ((c.toNat : Int) != 10) = true := by
                  rw [bne_iff_ne]; intro hh
                  exact h10 (UInt8.toNat_inj.1 (by show c.toNat = 10; omega))
                have hil : isLine c = true := by unfold isLine; simpa using h10
                replace HF := HF.out
                rw [hil, if_pos rfl] at HF
                have HF2 := mkHid HF
                clear HF
                go_wp2_with fail
                exact ⟨⟨j + 1, by omega, by simp, by rw [HF2.out], trivial⟩, by simp [intOf]; omega⟩
            · have hje : j = q.length := by omega
              subst hje
              rw [List.take_length]
              rw [List.take_length] at hfl
              have HX : Hid (linesOf (ls.take (n + 1)) = P ++ 35 :: (q.filter isLine ++ [10])) := mkHid (by rw [HNX.out, HLO.out])
              generalize q.filter isLine = F at *
              have hz1 := S_size (P ++ 35 :: F)
              have hz2 : (P ++ 35 :: F).length = P.length + (F.length + 1) := by simp
              have hap3 : S (P ++ 35 :: F) ++ ⟨#[10]⟩ = S (P ++ 35 :: (F ++ [10])) := by rw [show (⟨#[10]⟩ : ByteArray) = S [10] from rfl, S_append]; simp
              have hnlt : ¬ (q.length : Int) < q.length := by omega
              go_wp2_with fail
              exact ⟨⟨n + 1, by omega, by omega, by simp, by rw [HX.out], hbr2⟩, by simp [intOf]; omega⟩
        · have hcase : ¬ (n : Int) < ls.length ∨ ((n : Int) < ls.length ∧ ¬ (n : Int) < 3) := by omega
          have hb5 := hb3.trans (hbr.mono hb3.size)
          clear hb40 hbr hlt
          have hn33 : (ls.take n).length ≤ 3 := by rw [List.length_take]; omega
          have kx0 := pickI_nonneg x (n := 1125899906842624) (by omega)
          have kx1 := pickI_lt x (n := 1125899906842624) (by omega)
          have ky0 := pickI_nonneg y (n := 1125899906842624) (by omega)
          have ky1 := pickI_lt y (n := 1125899906842624) (by omega)
          obtain ⟨X, hX⟩ : ∃ X : Nat, pickI x 1125899906842624 = X := ⟨_, (Int.toNat_of_nonneg kx0).symm⟩
          obtain ⟨Y, hY⟩ : ∃ Y : Nat, pickI y 1125899906842624 = Y := ⟨_, (Int.toNat_of_nonneg ky0).symm⟩
          rw [hX] at kx0 kx1
          rw [hY] at ky0 ky1
          obtain ⟨hp1, hp2⟩ := HQ2.out (ls.take n) X Y ruled hn33 (by omega) (by omega)
          obtain ⟨P, hP⟩ : ∃ P, linesOf (ls.take n) = P := ⟨_, rfl⟩
          rw [hP] at hpz hp1 hp2 ⊢
          have hX17 := dec_len X 17 (by omega)
          have hY17 := dec_len Y 17 (by omega)
          obtain ⟨P1, e1⟩ : ∃ P1, P ++ xEq = P1 := ⟨_, rfl⟩
          obtain ⟨P2, e2⟩ : ∃ P2, P1 ++ dec X = P2 := ⟨_, rfl⟩
          obtain ⟨P3, e3⟩ : ∃ P3, P2 ++ yEq = P3 := ⟨_, rfl⟩
          obtain ⟨P4, e4⟩ : ∃ P4, P3 ++ dec Y = P4 := ⟨_, rfl⟩
          obtain ⟨P5, e5⟩ : ∃ P5, P4 ++ (if ruled = true then ruleS else []) = P5 := ⟨_, rfl⟩
          obtain ⟨P6, e6⟩ : ∃ P6, P5 ++ [122] = P6 := ⟨_, rfl⟩
          obtain ⟨P7, e7⟩ : ∃ P7, P5 ++ B = P7 := ⟨_, rfl⟩
          obtain ⟨P8, e8⟩ : ∃ P8, P6 ++ B = P8 := ⟨_, rfl⟩
          have q7 : P ++ (headLine X Y ruled ++ B) = P7 := by rw [← e7, ← e5, ← e4, ← e3, ← e2, ← e1]; unfold headLine; simp
          have q8 : P ++ (headLine X Y ruled ++ 122 :: B) = P8 := by rw [← e8, ← e6, ← e5, ← e4, ← e3, ← e2, ← e1]; unfold headLine; simp
          rw [q7] at hp1
          rw [q8] at hp2
          clear q7 q8
          have z1 : P1.length = P.length + 4 := by rw [← e1, List.length_append]; rfl
          have z2 : P2.length = P1.length + (dec X).length := by rw [← e2, List.length_append]
          have z3 : P3.length = P2.length + 6 := by rw [← e3, List.length_append]; rfl
          have z4 : P4.length = P3.length + (dec Y).length := by rw [← e4, List.length_append]
          have z6 : P6.length = P5.length + 1 := by rw [← e6, List.length_append]; rfl
          have z7 : P7.length = P5.length + B.length := by rw [← e7, List.length_append]
          have z8 : P8.length = P6.length + B.length := by rw [← e8, List.length_append]
          have g0 := S_size P
          have g1 := S_size P1
          have g2 := S_size P2
          have g3 := S_size P3
          have g4 := S_size P4
          have g5 := S_size P5
          have g6 := S_size P6
          have g7 := S_size P7
          have g8 := S_size P8
          have gX := S_size (dec X)
          have gY := S_size (dec Y)
          have gB := S_size B
          have a1 : S P ++ ⟨#[120, 32, 61, 32]⟩ = S P1 := by rw [← e1]; exact S_append P xEq
          have a2 : S P1 ++ S (dec X) = S P2 := by rw [← e2]; exact S_append _ _
          have a3 : S P2 ++ ⟨#[44, 32, 121, 32, 61, 32]⟩ = S P3 := by rw [← e3]; exact S_append P2 yEq
          have a4 : S P3 ++ S (dec Y) = S P4 := by rw [← e4]; exact S_append _ _
          have a6 : S P5 ++ ⟨#[122]⟩ = S P6 := by rw [← e6]; exact S_append P5 [122]
          have a7 : S P5 ++ S B = S P7 := by rw [← e7]; exact S_append _ _
          have a8 : S P6 ++ S B = S P8 := by rw [← e8]; exact S_append _ _
          have z5 : P5.length ≤ P4.length + 15 := by rw [← e5, List.length_append]; cases ruled <;> simp [ruleS]
          have z5' : P4.length ≤ P5.length := by rw [← e5, List.length_append]; omega
          have a5 : ruled = true → S P4 ++ ⟨#[44, 32, 114, 117, 108, 101, 32, 61, 32, 66, 51, 47, 83, 50, 51]⟩ = S P5 := by
            rintro rfl
            rw [← e5]; exact S_append P4 ruleS
          have a5' : ruled = false → P4 = P5 := by
            rintro rfl
            rw [← e5]; simp
          clear e1 e2 e3 e4 e5 e6 e7 e8 hP hn33
          have hXn : ((X : Int)).toNat = X := by omega
          have hYn : ((Y : Int)).toNat = Y := by omega
          have HPP := mkHid hp1
          have HPZ := mkHid hp2
          clear hp1 hp2
          have hk1 : (P.length : Int) ≤ P5.length := by omega
          rcases hcase with h1 | ⟨h1, h3⟩ <;> cases ruled
          all_goals
            first
              | (have a55 := a5' rfl
                 clear a5 a5'
                 subst a55)
              | (replace a5 := a5 rfl
                 clear a5')
            go_wp2_with fail
            refine (pick26_any x _ _ hx0 hx1 (by omega) (by omega)).mono ?_
            rintro e w' ⟨rfl, rfl⟩
            rw [hX]
            go_wp2_with fail
            refine (text03_dec (X : Int) _ (by omega) (by omega)).mono ?_
            rintro e w6 ⟨rfl, hb6⟩
            rw [hXn]
            replace hb6 := hb5.trans (hb6.mono hb5.size)
            go_wp2_with fail
            refine (pick26_any y _ _ hy0 hy1 (by omega) (by omega)).mono ?_
            rintro e w' ⟨rfl, rfl⟩
            rw [hY]
            go_wp2_with fail
            refine (text03_dec (Y : Int) _ (by omega) (by omega)).mono ?_
            rintro e w7 ⟨rfl, hb7⟩
            rw [hYn]
            replace hb7 := hb6.trans (hb7.mono hb6.size)
            go_wp2_with fail
            refine (parse_call rfl hq1 (by omega) w7 (hg.below hb7 hs4)).mono ?_
            rintro e w8 ⟨v8, rfl, ho8, hb8⟩
            have hr8 := crow_of_owns ho8
            replace hb8 := hb7.trans (hb8.mono hb7.size)
            clear ho8 hb6 hb7
            go_wp2_with fail
            refine (parse_call rfl HPP.out (by omega) w8 (hg.below hb8 hs4)).mono ?_
            rintro e w9 ⟨v9, rfl, ho9, hb9⟩
            have hr9 := crow_of_owns ho9
            replace hr8 := hr8.below hb9
            replace hb9 := hb8.trans (hb9.mono hb8.size)
            clear ho9 hb8
            go_wp2_with fail
            refine (parse_call rfl HPZ.out (by omega) w9 (hg.below hb9 hs4)).mono ?_
            rintro e w10 ⟨v10, rfl, _, hb10⟩
            replace hr8 := hr8.below hb10
            replace hr9 := hr9.below hb10
            replace hb10 := hb9.trans (hb10.mono hb9.size)
            clear hb9
            go_wp2_with fail
            refine (csame_walk _ _ _ _ _ (by omega) (by omega) hr8 hr9).mono ?_
            rintro e w11 ⟨rfl, nn, rfl⟩
            have hb11 := below_drewN hb10 nn
            go_wp2_with fail
            go_ret
            exact ⟨by simp <;> omega, hb11⟩
end Go.Proofs.YtnpndkmcgpaibaaDoor
