/- RleBack walked. -/
import Derived.Test.YtnpndkmcgpaibaaDoorPF
import Derived.Test.YtnpndkmcgpaibaaDoorDB
set_option linter.unusedVariables false
namespace Go.Proofs.YtnpndkmcgpaibaaDoor
open Go.RowKit Go.Sort
attribute [local go_sem high] eqA89

def homeOf (l : List (Int × Int)) : List (Int × Int) := l.map (fun c => (c.1 - boxX l, c.2 - boxY l))
/-- a small set: printed, and parsed again -/
theorem small_back {l : List (Int × Int)} (hr : rightB l = true) (hl : l.length ≤ 60) (hm : ∀ x ∈ l, -800000 ≤ x.1 ∧ x.1 ≤ 800000 ∧ -8000000 ≤ x.2 ∧ x.2 ≤ 8000000) :
    printOf l = ((printOf l).1, 0) ∧ parseP (printOf l).1 = (homeOf l, 0, 0) ∧ shiftP l (-boxX l) (-boxY l) = (homeOf l, 0) := by
  have h1 : printOf l = ((printOf l).1, 0) := by unfold printOf; rw [if_pos hr]
  have hWH : boxW l ≤ maxCoord ∧ boxH l ≤ maxCoord + 1 := by
    by_cases hne : l = []
    · subst hne; exact ⟨by decide, by decide⟩
    · have := box_bounds hr (-800000) 800000 (-8000000) 8000000 hm hne
      unfold maxCoord; omega
  exact ⟨h1, parse_print hr hWH.1 hWH.2 (by have := print_len l; omega), shift_home hr hWH.1 hWH.2⟩
theorem box_is {l : List (Int × Int)} (hr : rightB l = true) : (boxOf l).2 = decide ((0 : Int) < l.length) := by
  unfold boxOf
  by_cases h : l = []
  · subst h; rfl
  · rw [if_neg (by rintro (h2 | h2); exact h h2; rw [hr] at h2; cases h2)]
    have : 0 < l.length := List.length_pos_iff.2 h
    simp; omega
theorem small_shift {l : List (Int × Int)} (hr : rightB l = true) (hm : ∀ x ∈ l, -800000 ≤ x.1 ∧ x.1 ≤ 800000 ∧ -8000000 ≤ x.2 ∧ x.2 ≤ 8000000) (d e : Int) (hd : 0 ≤ d ∧ d < 274877906944) (he : 0 ≤ e ∧ e < 274877906944) :
    shiftP l d (-e) = (shiftM d (-e) l, 0) ∧ printOf (shiftM d (-e) l) = printOf l := by
  have hb : ∀ x ∈ l, inB (x.1 + d, x.2 + -e) = true := fun x hx => by
    have := hm x hx
    exact inB_of (by dsimp only; omega) (by dsimp only; omega) (by dsimp only; omega) (by dsimp only; omega)
  exact ⟨shift_all hr d (-e) (by omega) hb, print_shift hr d (-e) (shift_right hr d (-e) hb)⟩

set_option maxHeartbeats 16000000 in
set_option maxRecDepth 100000 in
theorem rback_walk (rv : Value) (raw : List (Int × Int)) (far dx dy : Int) (w : World) (hg : Good5 w) (hr : RawRow w rv raw) (hrl : raw.length ≤ 140737488351232)
    (hf0 : -9223372036854775808 ≤ far) (hf1 : far ≤ 9223372036854775807) (hx0 : -9223372036854775808 ≤ dx) (hx1 : dx ≤ 9223372036854775807) (hy0 : -9223372036854775808 ≤ dy) (hy1 : dy ≤ 9223372036854775807) :
    Calls Tryd.prog 9 #[rv, .int .i64 far, .int .i64 dx, .int .i64 dy] w fun e w' => e = .returned (.bool true) ∧ Below w.heap.size w w' := by
  have hs4 := hg.size
  go_enter Tryd.func9, Tryd.ntmps9
  go_wp2_with fail
  refine (awake5_walk _ hg).mono ?_
  rintro e w1 ⟨rfl, hb1⟩
  go_wp2_with fail
  refine (far_walk _ raw far _ (by omega) (hr.below hb1) hf0 hf1).mono ?_
  rintro e w2 ⟨lv, rfl, ho, hb2⟩
  replace hb2 := hb1.trans (hb2.mono hb1.size)
  have hln := farP_len raw far
  have hR := far_right raw far
  have hM := far_mem raw far
  have hlr := crow_of_owns ho
  obtain ⟨la, lcap, rfl⟩ := owns_slice ho
  clear hr ho hb1
  generalize farP raw far = l at *
  obtain ⟨hP, hQ, hS⟩ := small_back hR hln hM
  have hbx := box_in hR
  have hbi := box_is hR
  have d0 := pickI_nonneg dx (n := 274877906944) (by omega)
  have d1 := pickI_lt dx (n := 274877906944) (by omega)
  have e0 := pickI_nonneg dy (n := 274877906944) (by omega)
  have e1 := pickI_lt dy (n := 274877906944) (by omega)
  obtain ⟨hT, hU⟩ := small_shift hR hM (pickI dx 274877906944) (pickI dy 274877906944) ⟨d0, d1⟩ ⟨e0, e1⟩
  have htl := print_len l
  have HP := mkHid hP
  have HQ := mkHid hQ
  have HS := mkHid hS
  have HT := mkHid hT
  have HU := mkHid hU
  have HBI := mkHid hbi
  clear hM hP hQ hS hT hU hbi hR
  go_wp2_with fail
  refine (rbox_walk _ l _ (by omega) hlr).mono ?_
  rintro e w3 ⟨rfl, hb3⟩
  have hl3 := hlr.below hb3
  replace hb3 := hb2.trans (hb3.mono hb2.size)
  have HBX : Hid (boxV (boxOf l) = .tuple #[.agg #[.int .i64 (boxX l), .int .i64 (boxY l), .int .i64 (boxW l), .int .i64 (boxH l)], .bool (decide ((0 : Int) < l.length))]) := mkHid (by rw [← HBI.out]; rfl)
  rw [HBX.out]
  clear HBX HBI hlr hb2
  obtain ⟨⟨bx0, bx1⟩, ⟨by0, by1⟩⟩ := hbx
  generalize hbX : boxX l = bx at *
  generalize hbY : boxY l = by_ at *
  generalize boxW l = bw at *
  generalize boxH l = bh at *
  clear hbX hbY
  have hn4 := heap_alloc_new w3 (Obj.cells #[Value.int IntKind.i64 bx, Value.int IntKind.i64 by_, Value.int IntKind.i64 bw, Value.int IntKind.i64 bh] 53)
  have hbA : Below w3.heap.size w3 (w3.alloc (Obj.cells #[Value.int IntKind.i64 bx, Value.int IntKind.i64 by_, Value.int IntKind.i64 bw, Value.int IntKind.i64 bh] 53)) := (Below.refl _ w3).alloc (Nat.le_refl _) _
  obtain ⟨⟨c0, c1, c2, c3⟩, ⟨f0, f1, f2, f3⟩⟩ := four _ _ _ _ _ _ hn4
  go_wp2_with fail
  have hl4 := hl3.below hbA
  have hb4 := hb3.trans (hbA.mono hb3.size)
  clear hl3 hb3 hbA hn4 c0 c1 c2 c3 f0 f1 f2 f3
  generalize (w3.alloc (Obj.cells #[Value.int IntKind.i64 bx, Value.int IntKind.i64 by_, Value.int IntKind.i64 bw, Value.int IntKind.i64 bh] 53)) = w4 at *
  refine (shift_walk _ l (-bx) (-by_) w4 (by omega) hl4 (by omega) (by omega) (by omega) (by omega)).mono ?_
  rintro e w5 ⟨wv, rfl, how, hb5⟩
  rw [HS.out] at how ⊢
  have hw5 := crow_of_owns how
  have hl5 := hl4.below hb5
  replace hb5 := hb4.trans (hb5.mono hb4.size)
  clear how hl4 hb4
  go_wp2_with fail
  refine (pick26_any dx _ _ hx0 hx1 (by omega) (by omega)).mono ?_
  rintro e w' ⟨rfl, rfl⟩
  go_wp2_with fail
  refine (pick26_any dy _ _ hy0 hy1 (by omega) (by omega)).mono ?_
  rintro e w' ⟨rfl, rfl⟩
  generalize pickI dx 274877906944 = dd at *
  generalize pickI dy 274877906944 = de at *
  go_wp2_with fail
  refine (shift_walk _ l dd (-de) w5 (by omega) hl5 (by omega) (by omega) (by omega) (by omega)).mono ?_
  rintro e w6 ⟨tv, rfl, hot, hb6⟩
  rw [HT.out] at hot ⊢
  have ht6 := crow_of_owns hot
  have hw6 := hw5.below hb6
  have hl6 := hl5.below hb6
  replace hb6 := hb5.trans (hb6.mono hb5.size)
  clear hot hl5 hw5 hb5
  go_wp2_with fail
  refine (print_call _ l w6 (by omega) (hg.below hb6 hs4) hl6 HP.out).mono ?_
  rintro e w7 ⟨rfl, hb7⟩
  have ht7 := ht6.below hb7
  have hw7 := hw6.below hb7
  replace hb7 := hb6.trans (hb7.mono hb6.size)
  clear hl6 ht6 hw6 hb6
  go_wp2_with fail
  refine (print_call _ (shiftM dd (-de) l) w7 (by rw [shiftM_len]; omega) (hg.below hb7 hs4) ht7 (HU.out.trans HP.out)).mono ?_
  rintro e w8 ⟨rfl, hb8⟩
  have hw8 := hw7.below hb8
  replace hb8 := hb7.trans (hb8.mono hb7.size)
  clear ht7 hw7 hb7
  go_wp2_with fail
  refine (parse_call rfl HQ.out (by omega) w8 (hg.below hb8 hs4)).mono ?_
  rintro e w9 ⟨mv, rfl, hom, hb9⟩
  have hm9 := crow_of_owns hom
  have hw9 := hw8.below hb9
  replace hb9 := hb8.trans (hb9.mono hb8.size)
  clear hom hw8 hb8
  have hhl : (homeOf l).length ≤ 4611686018427387904 := by unfold homeOf; rw [List.length_map]; omega
  go_wp2_with fail
  refine (csame_walk _ _ _ _ _ hhl hhl hm9 hw9).mono ?_
  rintro e w10 ⟨rfl, nn, rfl⟩
  have hb10 := below_drewN hb9 nn
  go_wp2_with fail
  go_ret
  exact ⟨by simp, hb10⟩
end Go.Proofs.YtnpndkmcgpaibaaDoor
