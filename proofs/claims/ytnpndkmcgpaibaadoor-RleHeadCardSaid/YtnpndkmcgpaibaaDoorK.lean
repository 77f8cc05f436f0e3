/- Walks of chapter 4's law: pick, Items, awake. -/
import Derived.Test.YtnpndkmcgpaibaaDoorJ
set_option linter.unusedVariables false
namespace Go.Proofs.YtnpndkmcgpaibaaDoor
open Go.RowKit Go.Sort
attribute [local go_sem high] eqA37

/-! ### from an owned row to items that can be read -/
theorem itCells_get (l : List It) (i j : Nat) (h : i < l.length) (hj : j < 3) : (itCells l)[i * 3 + j]? = (itCell l[i])[j]? := by
  induction l generalizing i with
  | nil => simp at h
  | cons x r ih =>
    show (itCell x ++ itCells r)[i * 3 + j]? = _
    cases i with
    | zero => rw [List.getElem?_append_left (by simp [itCell]; omega)]; simp
    | succ i =>
      rw [List.getElem?_append_right (by simp [itCell]; omega)]
      simp only [itCell, List.length_cons, List.length_nil, List.getElem_cons_succ]
      rw [show (i + 1) * 3 + j - (0 + 1 + 1 + 1) = i * 3 + j from by omega]
      exact ih i (by simpa using h)
theorem itrow_of_owns {w : World} {base : Nat} {v : Value} {l : List It} (h : w.ownsRow base 37 3 v l.length (itCells l)) : ItRow w v l := by
  rcases h.2 with ⟨rfl, h0⟩ | ⟨g, cap, cur, rfl, hg, hh, hc, hm, hs, ht⟩
  · obtain rfl : l = [] := List.eq_nil_of_length_eq_zero h0
    exact ⟨none, 0, rfl, fun i hi => by simp at hi⟩
  · refine ⟨_, cap, rfl, fun i hi => ⟨g, 0, rfl, (Array.getElem?_eq_some_iff.1 hh).1, ?_⟩⟩
    have key : ∀ j, j < 3 → w.cell? ⟨g, 0 + i * 3 + j, none⟩ = (itCell l[i])[j]? := by
      intro j hj
      rw [Lib.cell_of_heap hh, ← itCells_get l i j hi hj, ← ht, List.getElem?_take, if_pos (by omega)]
      simp
    exact ⟨key 0 (by omega), key 1 (by omega), key 2 (by omega)⟩

/-! ### pick -/
def pickI (c n : Int) : Int := (if c < 0 then -(c + 1) else c) % n
theorem pickI_nonneg (c : Int) {n : Int} (h : 0 < n) : 0 ≤ pickI c n := Int.emod_nonneg _ (by omega)
theorem pickI_lt (c : Int) {n : Int} (h : 0 < n) : pickI c n < n := Int.emod_lt_of_pos _ h

theorem pick_any (c n : Int) (w : World) (h0 : -9223372036854775808 ≤ c) (h1 : c ≤ 9223372036854775807) (hn : 0 < n) (hn1 : n ≤ 9223372036854775807) :
    Calls Tryd.prog 17 #[.int .i64 c, .int .i64 n] w fun e w' => e = .returned (.int .i64 (pickI c n)) ∧ w = w' := by
  have hnz : (n == 0) = false := by rw [beq_eq_false_iff_ne]; omega
  by_cases hc : c < 0
  · have HE : Hid (pickI c n = -(c + 1).tmod n) := mkHid (by
      unfold pickI; rw [if_pos hc, ← Int.neg_tmod, Int.tmod_eq_emod_of_nonneg (by omega)])
    go_enter Tryd.func17, Tryd.ntmps17
    go_wp2
    go_ret
    exact ⟨by rw [HE.out]; rfl, rfl⟩
  · have HE : Hid (pickI c n = c % n) := mkHid (by unfold pickI; rw [if_neg hc])
    go_enter Tryd.func17, Tryd.ntmps17
    go_wp2
    go_ret
    exact ⟨by rw [HE.out]; rfl, rfl⟩

/-! ### Items -/
def mkIt (p : Int × Int) : It :=
  ⟨if pickI p.1 3 = 0 then 98 else if pickI p.1 3 = 1 then 111 else 36, if p.2 % 9 = 0 then 1 + pickI p.2 1099511627776 else 1 + pickI p.2 5, 0⟩
def items (raw : List (Int × Int)) : List It := (raw.take 40).map mkIt
def RawRow (w : World) (v : Value) (raw : List (Int × Int)) : Prop :=
  (∃ a cap, v = .slice a raw.length cap ∧ ∀ i (h : i < raw.length), ∃ b o, a = some ⟨b, o, none⟩ ∧ b < w.heap.size ∧
    w.cell? ⟨b, o + i * 2, none⟩ = some (.int .i64 (raw[i]).1) ∧ w.cell? ⟨b, o + i * 2 + 1, none⟩ = some (.int .i64 (raw[i]).2)) ∧
  ∀ p ∈ raw, -9223372036854775808 ≤ p.1 ∧ p.1 ≤ 9223372036854775807 ∧ -9223372036854775808 ≤ p.2 ∧ p.2 ≤ 9223372036854775807
theorem RawRow.below {w w' : World} {v : Value} {l : List (Int × Int)} (h : RawRow w v l) (hb : Below w.heap.size w w') : RawRow w' v l := by
  obtain ⟨⟨a, cap, rfl, h⟩, hr⟩ := h
  refine ⟨⟨a, cap, rfl, fun i hi => ?_⟩, hr⟩
  obtain ⟨b, o, ha, hlt, h0, h1⟩ := h i hi
  exact ⟨b, o, ha, Nat.lt_of_lt_of_le hlt hb.size, (hb.cell (p := ⟨b, _, none⟩) hlt).trans h0, (hb.cell (p := ⟨b, _, none⟩) hlt).trans h1⟩
theorem items_step (raw : List (Int × Int)) (k : Nat) (h : k < raw.length) : (raw.take (k + 1)).map mkIt = (raw.take k).map mkIt ++ [mkIt raw[k]] := by
  rw [List.take_succ_eq_append_getElem h, List.map_append]; rfl
theorem bo_get (x : Int) (h0 : 0 ≤ x) (h1 : x < 3) (b : ByteArray) (hb : b = ⟨#[98, 111, 36]⟩) (h : x.toNat < b.size) : b[x.toNat] = (if x = 0 then 98 else if x = 1 then 111 else 36) := by
  subst hb
  have : x = 0 ∨ x = 1 ∨ x = 2 := by omega
  rcases this with rfl | rfl | rfl <;> rfl

set_option maxHeartbeats 4000000 in
set_option maxRecDepth 100000 in
theorem items_walk (v : Value) (raw : List (Int × Int)) (w : World) (hl : raw.length ≤ 4611686018427387904) (hv : RawRow w v raw) :
    Calls Tryd.prog 15 #[v] w fun e w' => ∃ v', e = .returned v' ∧ w'.ownsRow w.heap.size 37 3 v' (items raw).length (itCells (items raw)) ∧ Below w.heap.size w w' := by
  obtain ⟨⟨a, cap, rfl, hcs⟩, hrange⟩ := hv
  have HC := Lib.hid hcs
  have HR := Lib.hid hrange
  clear hcs hrange
  go_enter Tryd.func15, Tryd.ntmps15
  go_wp2
  go_loopw [3, 4] (fun vo i wr => ∃ k : Nat, k ≤ raw.length ∧ k ≤ 40 ∧ i = .int .i64 k ∧ wr.ownsRow w.heap.size 37 3 vo ((raw.take k).map mkIt).length (itCells ((raw.take k).map mkIt)) ∧ Below w.heap.size w wr) (fun _ i _ => raw.length - (intOf i).toNat)
  case atStart => exact ⟨0, Nat.zero_le _, Nat.zero_le _, rfl, World.ownsRow_nil _ _ _ _, Below.refl _ w⟩
  case round =>
    obtain ⟨k, hk, hk40, rfl, hown, hbw⟩ := hrel
    have hs := hbw.size
    have hlen : ((raw.take k).map mkIt).length = k := by rw [List.length_map, List.length_take]; omega
    by_cases hlt : k < raw.length ∧ k < 40
    · obtain ⟨hlt, hlt4⟩ := hlt
      obtain ⟨b, o, rfl, hbs, q0, q1⟩ := HC.out k hlt
      have p0 := (hbw.cell (p := ⟨b, o + k * 2, none⟩) hbs).trans q0
      have p1 := (hbw.cell (p := ⟨b, o + k * 2 + 1, none⟩) hbs).trans q1
      have hstep := items_step raw k hlt
      have hrg := HR.out raw[k] (List.getElem_mem hlt)
      generalize raw[k] = x at *
      have HS := Lib.hid hstep
      obtain ⟨r1, r2, r3, r4⟩ := hrg
      clear hstep q0 q1
      have b30 := pickI_nonneg x.1 (n := 3) (by omega)
      have b31 := pickI_lt x.1 (n := 3) (by omega)
      have b50 := pickI_nonneg x.2 (n := 5) (by omega)
      have b51 := pickI_lt x.2 (n := 5) (by omega)
      have bm0 := pickI_nonneg x.2 (n := 1099511627776) (by omega)
      have bm1 := pickI_lt x.2 (n := 1099511627776) (by omega)
      have hlt4' : (k : Int) < 40 := by omega
      obtain ⟨tg, htg⟩ : ∃ tg : UInt8, (if pickI x.1 3 = 0 then 98 else if pickI x.1 3 = 1 then 111 else 36) = tg := ⟨_, rfl⟩
      have hbo : ∀ h, (⟨#[98, 111, 36]⟩ : ByteArray)[(pickI x.1 3).toNat]'h = tg := fun h => (bo_get (pickI x.1 3) b30 b31 ⟨#[98, 111, 36]⟩ rfl h).trans htg
      have HTG := Lib.hid htg
      clear htg
      by_cases h9 : x.2 % 9 = 0
      · have HM : Hid (mkIt x = ⟨tg, 1 + pickI x.2 1099511627776, 0⟩) := mkHid (by unfold mkIt; rw [HTG.out, if_pos h9])
        have h9b : (x.2.tmod 9 == 0) = true := by rw [beq_iff_eq]; exact (Int.dvd_iff_tmod_eq_zero).1 (Int.dvd_of_emod_eq_zero h9)
        clear h9
        obtain ⟨i0, hi0, hz0, hz1, hz2⟩ := info_parts infoItem
        go_wp2_with (first | (go_at_call 17; refine (pick_any _ _ _ (by omega) (by omega) (by omega) (by omega)).mono ?_; rintro e w' ⟨rfl, rfl⟩) | (at_builtin; refine wpList_append_own _ rfl _ _ 22 rfl w.heap.size 37 i0 (.agg #[.int .u8 0, .int .i64 0, .int .i64 0]) 3 24 Tryd.underlying22 hi0 hz0 hz1 hz2 rfl (by decide) _ _ _ rfl (hown.alloc _) ⟨wr.heap.size, 0, none⟩ 1 1 (itCell ⟨tg, 1 + pickI x.2 1099511627776, 0⟩) rfl rfl ?c1 ?c2 ?c3 ?c4 ?c5 ?_))
        case c1 => exact fun jj u hj => new_cells wr (itCell ⟨tg, 1 + pickI x.2 1099511627776, 0⟩) 37 jj u hj
        case c2 => intro u hu; simp [itCell] at hu; rcases hu with rfl | rfl | rfl <;> rfl
        case c3 => unfold maxLen; omega
        case c4 => omega
        case c5 => simp; omega
        intro v' w4 hown' hgrow _
        have hown4 := hown.alloc (Obj.cells #[Value.int IntKind.u8 tg.toNat, Value.int IntKind.i64 (1 + pickI x.2 1099511627776), Value.int IntKind.i64 0] 37)
        have hbw4 : Below w.heap.size w w4 := below_own (hbw.alloc (by omega) _) hgrow hown4 (Nat.le_refl _) (by simp; omega)
        have hown5 : w4.ownsRow w.heap.size 37 3 v' ((raw.take (k + 1)).map mkIt).length (itCells ((raw.take (k + 1)).map mkIt)) := by
          rw [HS.out, HM.out, itCells_append, List.length_append, hlen]; simpa [itCells] using hown'
        clear hown' hgrow hown4 hown hbw
        go_wp2
        go_roundw
        case rel => exact ⟨k + 1, by omega, by omega, by go_num, hown5, hbw4⟩
        case measure => simp [intOf]; omega
      · have HM : Hid (mkIt x = ⟨tg, 1 + pickI x.2 5, 0⟩) := mkHid (by unfold mkIt; rw [HTG.out, if_neg h9])
        have h9b : (x.2.tmod 9 == 0) = false := by rw [beq_eq_false_iff_ne]; intro h; exact h9 (Int.emod_eq_zero_of_dvd ((Int.dvd_iff_tmod_eq_zero).2 h))
        clear h9
        obtain ⟨i0, hi0, hz0, hz1, hz2⟩ := info_parts infoItem
        go_wp2_with (first | (go_at_call 17; refine (pick_any _ _ _ (by omega) (by omega) (by omega) (by omega)).mono ?_; rintro e w' ⟨rfl, rfl⟩) | (at_builtin; refine wpList_append_own _ rfl _ _ 22 rfl w.heap.size 37 i0 (.agg #[.int .u8 0, .int .i64 0, .int .i64 0]) 3 24 Tryd.underlying22 hi0 hz0 hz1 hz2 rfl (by decide) _ _ _ rfl (hown.alloc _) ⟨wr.heap.size, 0, none⟩ 1 1 (itCell ⟨tg, 1 + pickI x.2 5, 0⟩) rfl rfl ?d1 ?d2 ?d3 ?d4 ?d5 ?_))
        case d1 => exact fun jj u hj => new_cells wr (itCell ⟨tg, 1 + pickI x.2 5, 0⟩) 37 jj u hj
        case d2 => intro u hu; simp [itCell] at hu; rcases hu with rfl | rfl | rfl <;> rfl
        case d3 => unfold maxLen; omega
        case d4 => omega
        case d5 => simp; omega
        intro v' w4 hown' hgrow _
        have hown4 := hown.alloc (Obj.cells #[Value.int IntKind.u8 tg.toNat, Value.int IntKind.i64 (1 + pickI x.2 5), Value.int IntKind.i64 0] 37)
        have hbw4 : Below w.heap.size w w4 := below_own (hbw.alloc (by omega) _) hgrow hown4 (Nat.le_refl _) (by simp; omega)
        have hown5 : w4.ownsRow w.heap.size 37 3 v' ((raw.take (k + 1)).map mkIt).length (itCells ((raw.take (k + 1)).map mkIt)) := by
          rw [HS.out, HM.out, itCells_append, List.length_append, hlen]; simpa [itCells] using hown'
        clear hown' hgrow hown4 hown hbw
        go_wp2
        go_roundw
        case rel => exact ⟨k + 1, by omega, by omega, by go_num, hown5, hbw4⟩
        case measure => simp [intOf]; omega
    · have HI : Hid (items raw = (raw.take k).map mkIt) := mkHid (by
        unfold items
        congr 1
        by_cases h : k < raw.length
        · rw [show k = 40 from by omega]
        · rw [List.take_of_length_le (show raw.length ≤ 40 by omega), List.take_of_length_le (by omega)])
      by_cases hlt2 : k < raw.length
      · have hnot : ¬ (k : Int) < 40 := by omega
        have hyes : (k : Int) < (raw.length : Int) := by omega
        clear hlt
        go_wp2
        go_ret
        exact ⟨_, rfl, by rw [HI.out]; exact hown, hbw⟩
      · clear hlt
        go_wp2
        go_ret
        exact ⟨_, rfl, by rw [HI.out]; exact hown, hbw⟩

/-! ### awake -/
theorem lexA1 : lex [50, 98, 111, 32, 36, 33, 120] = ([⟨98, 2, 0⟩, ⟨111, 1, 2⟩, ⟨36, 1, 4⟩], 0, 5) := by decide +kernel
theorem lexA2 : lex [98, 48, 111, 33] = ([], 30, 1) := by decide +kernel
theorem lexA3 : lex [32, 51] = ([], 30, 1) := by decide +kernel
theorem lexA4 : lex [98, 111] = ([], 31, 2) := by decide +kernel
theorem lexA5 : lex [49, 48, 57, 57, 53, 49, 49, 54, 50, 55, 55, 55, 55, 98, 33] = ([], 2, 0) := by decide +kernel
theorem textA : text [⟨98, 2, 0⟩, ⟨111, 1, 2⟩, ⟨36, 1, 4⟩] = [50, 98, 111, 36] := by
  simp [text, itText, isTag, maxCoord, dec_small]

theorem lex_call {l : List UInt8} {its : List It} {a b : Int} (h : lex l = (its, a, b)) (hl : l.length ≤ 1000) (w : World) :
    Calls Tryd.prog 18 #[.string ⟨l.toArray⟩] w fun e w' => ∃ v, e = .returned (.tuple #[v, .int .i64 a, .int .i64 b]) ∧ w'.ownsRow w.heap.size 37 3 v its.length (itCells its) ∧ Below w.heap.size w w' := by
  refine (lex_walk l w (by omega)).mono ?_
  rintro e w' ⟨v, h1, h2, h3⟩
  rw [h] at h1 h2
  exact ⟨v, h1, h2, h3⟩

set_option maxHeartbeats 4000000 in
set_option maxRecDepth 100000 in
theorem awake_walk (w : World) (hg : Good w) : Calls Tryd.prog 14 #[] w fun e w' => e = .returned (.bool true) ∧ Below w.heap.size w w' := by
  go_enter Tryd.func14, Tryd.ntmps14
  go_wp2_with fail
  refine (lex_call lexA1 (by decide) _).mono ?_
  rintro e w1 ⟨v1, rfl, ho1, hb1⟩
  go_wp2_with fail
  refine (lex_call lexA2 (by decide) _).mono ?_
  rintro e w2 ⟨v2, rfl, ho2, hb2⟩
  go_wp2_with fail
  refine (lex_call lexA3 (by decide) _).mono ?_
  rintro e w3 ⟨v3, rfl, ho3, hb3⟩
  go_wp2_with fail
  refine (lex_call lexA4 (by decide) _).mono ?_
  rintro e w4 ⟨v4, rfl, ho4, hb4⟩
  go_wp2_with fail
  refine (lex_call lexA5 (by decide) _).mono ?_
  rintro e w5 ⟨v5, rfl, ho5, hb5⟩
  have hr1 := itrow_of_owns ho1
  have hr5 : ItRow w5 v1 _ := (((hr1.below hb2).below hb3).below hb4).below hb5
  have hbw : Below w.heap.size w w5 := hb1.trans ((hb2.mono hb1.size).trans ((hb3.mono (Nat.le_trans hb1.size hb2.size)).trans ((hb4.mono (Nat.le_trans hb1.size (Nat.le_trans hb2.size hb3.size))).trans (hb5.mono (Nat.le_trans hb1.size (Nat.le_trans hb2.size (Nat.le_trans hb3.size hb4.size)))))))
  have hg5 := hg.below hbw hg.2
  have HT := Lib.hid (fun w => text_walk v1 [⟨98, 2, 0⟩, ⟨111, 1, 2⟩, ⟨36, 1, 4⟩] w (by decide))
  have hr5' := hr5
  obtain ⟨a, cap, rfl, hcs⟩ := hr5'
  obtain ⟨b, o, rfl, _, c0, c1, c2⟩ := hcs 0 (by decide)
  obtain ⟨b', o', hbo, _, d0, d1, d2⟩ := hcs 2 (by decide)
  have hbo2 := Option.some.inj hbo
  simp only [Addr.mk.injEq, and_true] at hbo2
  obtain ⟨rfl, rfl⟩ := hbo2
  simp only [List.getElem_cons_zero, List.getElem_cons_succ] at c0 c1 c2 d0 d1 d2
  have e0 : w5.cell? ⟨b, o, none⟩ = some (.int .u8 98) := c0
  have e1 : w5.cell? ⟨b, o + 1, none⟩ = some (.int .i64 2) := c1
  have e2 : w5.cell? ⟨b, o + 2, none⟩ = some (.int .i64 0) := c2
  have f0 : w5.cell? ⟨b, o + 6, none⟩ = some (.int .u8 36) := d0
  have f1 : w5.cell? ⟨b, o + 7, none⟩ = some (.int .i64 1) := d1
  have f2 : w5.cell? ⟨b, o + 8, none⟩ = some (.int .i64 4) := d2
  have f1' : w5.cell? ⟨b, o + 6 + 1, none⟩ = some (.int .i64 1) := d1
  have f2' : w5.cell? ⟨b, o + 6 + 2, none⟩ = some (.int .i64 4) := d2
  clear c0 c1 c2 d0 d1 d2
  clear hcs hbo hr1 ho1 ho2 ho3 ho4 ho5 hb1 hb2 hb3 hb4 hb5
  go_wp2_with (go_at_call 21; refine (HT.out _ hg5 hr5).mono ?_)
  rintro e w6 ⟨rfl, hb6⟩
  rw [textA]
  have hss := S_toList [50, 98, 111, 36]
  have hfin := hbw.trans (hb6.mono hbw.size)
  go_wp2
  go_ret
  exact ⟨rfl, hfin⟩
end Go.Proofs.YtnpndkmcgpaibaaDoor
