/- awake of chapter 5 walked. -/
import Derived.Test.YtnpndkmcgpaibaaDoorCT
import Derived.Test.YtnpndkmcgpaibaaDoorCM
set_option linter.unusedVariables false
namespace Go.Proofs.YtnpndkmcgpaibaaDoor
open Go.RowKit Go.Sort
attribute [local go_sem high] eqA89

theorem pa1 : parseP [35, 67, 32, 120, 10, 120, 32, 61, 32, 48, 44, 32, 121, 32, 61, 32, 55, 10, 10, 32, 98, 111, 50, 36, 51, 111, 33, 120] = ([(1, 0), (0, 2), (1, 2), (2, 2)], 0, 0) := by decide +kernel
theorem pa2 : parseP [35, 67, 32, 120, 10, 120, 32, 61, 32, 48, 44, 121, 32, 61, 32, 55, 10, 33] = ([], 32, 5) := by decide +kernel
theorem pa3 : parseP [120, 32, 61, 32, 48, 44, 32, 121, 32, 61, 32, 55, 10, 98, 50, 120, 33] = ([], 30, 14) := by decide +kernel
theorem pa4 : parseP [120, 32, 61, 32, 48, 44, 32, 121, 32, 61, 32, 55, 10, 98, 49, 48, 57, 57, 53, 49, 49, 54, 50, 55, 55, 55, 54, 111, 33] = ([], 2, 14) := by decide +kernel
theorem pr1 : printOf [(5, 5), (6, 5), (4, 6)] = ([120, 32, 61, 32, 51, 44, 32, 121, 32, 61, 32, 50, 44, 32, 114, 117, 108, 101, 32, 61, 32, 66, 51, 47, 83, 50, 51, 10, 98, 50, 111, 36, 111, 33, 10], 0) := by
  have h1 : rightB [(5, 5), (6, 5), (4, 6)] = true := by decide +kernel
  have h2 : itemsOf [(5, 5), (6, 5), (4, 6)] = [⟨98, 1, 0⟩, ⟨111, 2, 0⟩, ⟨36, 1, 0⟩, ⟨111, 1, 0⟩] := by decide +kernel
  have h3 : boxW [(5, 5), (6, 5), (4, 6)] = 3 := by decide +kernel
  have h4 : boxH [(5, 5), (6, 5), (4, 6)] = 2 := by decide +kernel
  unfold printOf
  rw [if_pos h1, h2, h3, h4]
  unfold headText
  rw [show dec (3 : Int).toNat = [51] from dec_small (by decide), show dec (2 : Int).toNat = [50] from dec_small (by decide)]
  have h5 : text [⟨98, 1, 0⟩, ⟨111, 2, 0⟩, ⟨36, 1, 0⟩, ⟨111, 1, 0⟩] = [98, 50, 111, 36, 111] := by
    unfold text itText
    simp only [List.flatMap_cons, List.flatMap_nil]
    rw [show dec (2 : Int).toNat = [50] from dec_small (by decide)]
    decide
  rw [h5]
  rfl
/-- what chapter 5's walks ask of a world -/
def Good5 (w : World) : Prop := Good w ∧ Hm w
theorem Good5.below {w w' : World} {B : Nat} (h : Good5 w) (hb : Below B w w') (hB : 4 ≤ B) : Good5 w' := ⟨h.1.below hb hB, h.2.below hb (by omega)⟩
theorem Good5.size {w : World} (h : Good5 w) : 4 ≤ w.heap.size := h.1.2
theorem parse_call {sb : ByteArray} {l : List UInt8} {o : List (Int × Int)} {a b : Int} (hs : sb = S l) (h : parseP l = (o, a, b)) (hl : l.length ≤ 4611686018427387904) (w : World) (hg : Good5 w) :
    Calls Tryd.prog 27 #[.string sb] w fun e w' => ∃ v, e = .returned (.tuple #[v, .int .i64 a, .int .i64 b]) ∧ w'.ownsRow w.heap.size 89 2 v o.length (ceCells o) ∧ Below w.heap.size w w' := by
  subst hs
  refine (parse_walk l w hl hg.2 (by have := hg.size; omega)).mono ?_
  rintro e w' ⟨v, h1, h2, h3⟩
  rw [h] at h1 h2
  exact ⟨v, h1, h2, h3⟩
theorem print_call (v : Value) (l : List (Int × Int)) {t : List UInt8} {a : Int} (w : World) (hl : l.length ≤ 4611686018427387904) (hg : Good5 w) (hv : CRow w v l) (h : printOf l = (t, a)) :
    Calls Tryd.prog 24 #[v] w fun e w' => e = .returned (.tuple #[.string (S t), .int .i64 a]) ∧ Below w.heap.size w w' := by
  have := print_walk v l w hl hg.1 hv
  rw [h] at this
  exact this

set_option maxHeartbeats 8000000 in
set_option maxRecDepth 100000 in
theorem awake5_walk (w : World) (hg : Good5 w) : Calls Tryd.prog 22 #[] w fun e w' => e = .returned (.bool true) ∧ Below w.heap.size w w' := by
  have hlit : (w.alloc (Obj.cells #[Value.int IntKind.i64 5, Value.int IntKind.i64 5, Value.int IntKind.i64 6, Value.int IntKind.i64 5, Value.int IntKind.i64 4, Value.int IntKind.i64 6] 89)).ownsRow w.heap.size 89 2 (.slice (some ⟨w.heap.size, 0, none⟩) 3 3) 3 (ceCells [(5, 5), (6, 5), (4, 6)]) :=
    World.ownsRow_lit w #[Value.int IntKind.i64 5, Value.int IntKind.i64 5, Value.int IntKind.i64 6, Value.int IntKind.i64 5, Value.int IntKind.i64 4, Value.int IntKind.i64 6] 3 (Nat.le_refl _) (by decide) rfl
  have hb0 : Below w.heap.size w (w.alloc (Obj.cells #[Value.int IntKind.i64 5, Value.int IntKind.i64 5, Value.int IntKind.i64 6, Value.int IntKind.i64 5, Value.int IntKind.i64 4, Value.int IntKind.i64 6] 89)) := (Below.refl _ w).alloc (Nat.le_refl _) _
  have hs4 := hg.size
  go_enter Tryd.func22, Tryd.ntmps22
  go_wp2_with fail
  refine (print_call _ [(5, 5), (6, 5), (4, 6)] _ (by decide) (hg.below hb0 hs4) (crow_of_owns hlit) pr1).mono ?_
  rintro e w1 ⟨rfl, hb1⟩
  replace hb1 := hb0.trans (hb1.mono hb0.size)
  go_wp2_with fail
  refine (parse_call rfl pa1 (by decide) w1 (hg.below hb1 hs4)).mono ?_
  rintro e w2 ⟨v2, rfl, hown, hb2⟩
  replace hb2 := hb1.trans (hb2.mono hb1.size)
  go_wp2_with fail
  refine (parse_call rfl pa2 (by decide) w2 (hg.below hb2 hs4)).mono ?_
  rintro e w3 ⟨v3, rfl, _, hb3⟩
  have hown3 := owns_below hown hb3
  replace hb3 := hb2.trans (hb3.mono hb2.size)
  go_wp2_with fail
  refine (parse_call rfl pa3 (by decide) w3 (hg.below hb3 hs4)).mono ?_
  rintro e w4 ⟨v4, rfl, _, hb4⟩
  have hown4 := owns_below hown3 hb4
  replace hb4 := hb3.trans (hb4.mono hb3.size)
  go_wp2_with fail
  refine (parse_call rfl pa4 (by decide) w4 (hg.below hb4 hs4)).mono ?_
  rintro e w5 ⟨v5, rfl, _, hb5⟩
  have hown5 := owns_below hown4 hb5
  replace hb5 := hb4.trans (hb5.mono hb4.size)
  obtain ⟨a, cap, rfl, hcs⟩ := crow_at (crow_of_owns hown5)
  obtain ⟨b, o, rfl, hbs, q0, q1⟩ := hcs 0 (by decide)
  obtain ⟨b', o', hbo, _, r0, r1⟩ := hcs 3 (by decide)
  simp only [Option.some.injEq, Addr.mk.injEq, and_true] at hbo
  obtain ⟨rfl, rfl⟩ := hbo
  simp only [Nat.zero_mul, Nat.add_zero] at q0 q1
  replace q0 : w5.cell? ⟨b, o, none⟩ = some (.int .i64 1) := q0
  replace q1 : w5.cell? ⟨b, o + 1, none⟩ = some (.int .i64 0) := q1
  replace r0 : w5.cell? ⟨b, o + 6, none⟩ = some (.int .i64 2) := r0
  replace r1 : w5.cell? ⟨b, o + 7, none⟩ = some (.int .i64 2) := r1
  clear hown hown3 hown4 hown5 hcs hlit
  have hst := S_toList [120, 32, 61, 32, 51, 44, 32, 121, 32, 61, 32, 50, 44, 32, 114, 117, 108, 101, 32, 61, 32, 66, 51, 47, 83, 50, 51, 10, 98, 50, 111, 36, 111, 33, 10]
  go_wp2_with fail
  go_ret
  exact ⟨rfl, hb5⟩
end Go.Proofs.YtnpndkmcgpaibaaDoor
