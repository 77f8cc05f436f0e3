/- RleShort walked. -/
import Derived.Test.YtnpndkmcgpaibaaDoorPG
import Derived.Test.YtnpndkmcgpaibaaDoorDE
set_option linter.unusedVariables false
namespace Go.Proofs.YtnpndkmcgpaibaaDoor
open Go.RowKit Go.Sort
attribute [local go_sem high] eqA89

theorem small_box {l : List (Int × Int)} (hr : rightB l = true) (hm : ∀ x ∈ l, -800000 ≤ x.1 ∧ x.1 ≤ 800000 ∧ -8000000 ≤ x.2 ∧ x.2 ≤ 8000000) : boxW l ≤ maxCoord ∧ boxH l ≤ maxCoord + 1 := by
  by_cases hne : l = []
  · subst hne; exact ⟨by decide, by decide⟩
  · have := box_bounds hr (-800000) 800000 (-8000000) 8000000 hm hne
    unfold maxCoord; omega
set_option maxHeartbeats 16000000 in
set_option maxRecDepth 100000 in
theorem rshort_walk (rv : Value) (raw : List (Int × Int)) (far c : Int) (w : World) (hg : Good5 w) (hr : RawRow w rv raw) (hrl : raw.length ≤ 140737488351232)
    (hf0 : -9223372036854775808 ≤ far) (hf1 : far ≤ 9223372036854775807) (hc0 : -9223372036854775808 ≤ c) (hc1 : c ≤ 9223372036854775807) :
    Calls Tryd.prog 12 #[rv, .int .i64 far, .int .i64 c] w fun e w' => e = .returned (.bool true) ∧ Below w.heap.size w w' := by
  have hs4 := hg.size
  go_enter Tryd.func12, Tryd.ntmps12
  go_wp2_with fail
  refine (awake5_walk _ hg).mono ?_
  rintro e w1 ⟨rfl, hb1⟩
  go_wp2_with fail
  refine (far_walk _ raw far _ (by omega) (hr.below hb1) hf0 hf1).mono ?_
  rintro e w2 ⟨lv, rfl, ho, hb2⟩
  replace hb2 := hb1.trans (hb2.mono hb1.size)
  have hln := farP_len raw far
  have hR := far_right raw far
  have hBox := small_box hR (far_mem raw far)
  have hlr := crow_of_owns ho
  have htl := print_len (farP raw far)
  clear hr ho hb1
  generalize farP raw far = l at *
  obtain ⟨h, T, its, hP, hl, h35, hok, hT, hv, _⟩ := print_form hR hBox.1 hBox.2
  rw [hP] at htl
  dsimp only at htl
  have HS : Hid (∀ j, j ≤ T.length → parseP (h ++ 10 :: T.take j) = ([], 31, ((h.length + 1 + j : Nat) : Int)) ∨ ∃ p : Nat, parseP (h ++ 10 :: T.take j) = ([], 30, (p : Int)) ∧ p < h.length + 1 + j ∧ 1 ≤ j ∧ ∃ c, T[j - 1]? = some c ∧ isDigit c = true) :=
    mkHid fun j hj => parse_short h T its j hl h35 hok hT hv hj (by simp only [List.length_append, List.length_cons, List.length_nil] at htl ⊢; omega)
  have HLN := mkHid hl
  clear hl h35 hok hT hv hBox hR
  go_wp2_with fail
  refine (print_call _ l w2 (by omega) (hg.below hb2 hs4) hlr hP).mono ?_
  rintro e w3 ⟨rfl, hb3⟩
  replace hb3 := hb2.trans (hb3.mono hb2.size)
  clear hlr hb2 hP
  obtain ⟨t, ht⟩ : ∃ t, h ++ 10 :: (T ++ [33, 10]) = t := ⟨_, rfl⟩
  rw [ht] at htl ⊢
  have htz : t.length = h.length + T.length + 3 := by rw [← ht]; simp; omega
  have hts := S_size t
  have HLO : Hid (∀ k, k < h.length → ∀ hk : k < t.length, isLine t[k] = true) := mkHid fun k hk hk2 => by
    subst ht
    rw [List.getElem_append_left hk]
    exact List.all_eq_true.1 HLN.out _ (List.getElem_mem _)
  have HTEN : Hid (∀ hk : h.length < t.length, t[h.length] = 10) := mkHid fun hk => by
    subst ht
    rw [List.getElem_append_right (Nat.le_refl _)]
    simp
  have HTAKE : Hid (∀ j, j ≤ T.length → t.take (h.length + 1 + j) = h ++ 10 :: T.take j) := mkHid fun j hj => by
    subst ht
    rw [List.take_append, List.take_of_length_le (by omega), show h.length + 1 + j - h.length = j + 1 from by omega, List.take_succ_cons, List.take_append_of_le_length hj]
  have HBYTE : Hid (∀ j c, 1 ≤ j → T[j - 1]? = some c → t[h.length + j]? = some c) := mkHid fun j c hj hc => by
    subst ht
    rw [List.getElem?_append_right (by omega), show h.length + j - h.length = (j - 1) + 1 from by omega, List.getElem?_cons_succ, List.getElem?_append_left (List.getElem?_eq_some_iff.1 hc).1]
    exact hc
  clear ht
  go_wp2_with fail
  go_loopw [10] (fun i wr => ∃ k : Nat, k ≤ h.length ∧ i = .int .i64 k ∧ wr = w3) (fun i _ => h.length + 1 - (intOf i).toNat)
  case atStart => exact ⟨0, Nat.zero_le _, rfl, rfl⟩
  case round =>
    obtain ⟨k, hk, rfl, rfl⟩ := hrel
    have hget := S_get t k (by omega)
    have hkt' : (k : Int) < t.length := by omega
    by_cases hlt : k < h.length
    · have hq := HLO.out k hlt (by omega)
      generalize t[k]'(by omega) = cc at hget hq
      have h10 : ((cc.toNat : Int) != 10) = true := by
        rw [bne_iff_ne]; intro hh
        have : cc = 10 := UInt8.toNat_inj.1 (by show cc.toNat = 10; omega)
        rw [this] at hq; cases hq
      clear hq
      go_wp2_with fail
      exact ⟨⟨k + 1, by omega, by simp, trivial⟩, by simp [intOf]; omega⟩
    · have hkh : k = h.length := by omega
      subst hkh
      rw [HTEN.out (by omega)] at hget
      have hx : (t.length : Int) - h.length - 2 = T.length + 1 := by omega
      have hx3 : ¬ (t.length : Int) < h.length + 3 := by omega
      go_wp2_with fail
      refine (pick26_any c _ _ hc0 hc1 (by omega) (by omega)).mono ?_
      rintro e w' ⟨rfl, rfl⟩
      have hx2 : (h.length : Int) + T.length + 3 - h.length - 2 = T.length + 1 := by omega
      rw [hx2]
      have k0 := pickI_nonneg c (n := (T.length : Int) + 1) (by omega)
      have k1 := pickI_lt c (n := (T.length : Int) + 1) (by omega)
      obtain ⟨j, hj⟩ : ∃ j : Nat, pickI c ((T.length : Int) + 1) = j := ⟨_, (Int.toNat_of_nonneg k0).symm⟩
      rw [hj] at k0 k1 ⊢
      have hjT : j ≤ T.length := by omega
      clear hj k0 k1 hx2 hx
      have hex : (S t).extract 0 (h.length + 1 + j) = S (h ++ 10 :: T.take j) := by rw [S_extract, List.drop_zero, HTAKE.out j hjT]
      have hjt : (h.length : Int) + 1 + j ≤ t.length := by omega
      have hqz : (h ++ 10 :: T.take j).length ≤ 4611686018427387904 := by
        simp only [List.length_append, List.length_cons, List.length_take]; omega
      go_wp2_with fail
      rcases HS.out j hjT with hp | ⟨p, hp, hpk, hj1, cc, hcc, hcd⟩
      · refine (parse_call rfl hp hqz wr (hg.below hb3 hs4)).mono ?_
        rintro e w4 ⟨v4, rfl, _, hb4⟩
        replace hb4 := hb3.trans (hb4.mono hb3.size)
        have hpc : ((h.length + 1 + j : Nat) : Int) = h.length + 1 + j := by push_cast; rfl
        rw [hpc]
        clear hp hpc
        go_wp2_with fail
        go_ret
        exact ⟨rfl, hb4⟩
      · refine (parse_call rfl hp hqz wr (hg.below hb3 hs4)).mono ?_
        rintro e w4 ⟨v4, rfl, _, hb4⟩
        replace hb4 := hb3.trans (hb4.mono hb3.size)
        have hget2 := S_get t (h.length + j) (by omega)
        have hby := HBYTE.out j cc hj1 hcc
        rw [List.getElem?_eq_getElem (by omega)] at hby
        rw [Option.some.inj hby] at hget2
        obtain ⟨h48, h57⟩ := dig_bounds hcd
        have hpk' : (p : Int) < h.length + 1 + j := by omega
        clear hp hby hcc hcd
        go_wp2_with fail
        go_ret
        exact ⟨rfl, hb4⟩
end Go.Proofs.YtnpndkmcgpaibaaDoor
