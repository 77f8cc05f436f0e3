/- Cells: within bounds, order, sets; the program's and the reference's tests of them. -/
import Derived.Test.YtnpndkmcgpaibaaDoorK
import Derived.BigRegion
import Derived.Deep.RegionWith
import Derived.StillTailTactics
set_option linter.unusedVariables false
namespace Go.Proofs.YtnpndkmcgpaibaaDoor
open Go.RowKit Go.Sort

def inB (c : Int × Int) : Bool := decide (-1099511627776 ≤ c.1 ∧ c.1 ≤ 1099511627776 ∧ -1099511627776 ≤ c.2 ∧ c.2 ≤ 1099511627776)
def lessB (a b : Int × Int) : Bool := decide (a.2 < b.2 ∨ a.2 = b.2 ∧ a.1 < b.1)
def i64 (x : Int) : Prop := -9223372036854775808 ≤ x ∧ x ≤ 9223372036854775807

set_option maxRecDepth 100000 in
theorem in_any (x y : Int) (w : World) : Calls Tryd.prog 70 #[.agg #[.int .i64 x, .int .i64 y]] w fun e w' => e = .returned (.bool (inB (x, y))) ∧ Below w.heap.size w w' := by
  have hb : Below w.heap.size w (w.alloc (Obj.cells #[.int .i64 x, .int .i64 y] 89)) := (Below.refl _ w).alloc (Nat.le_refl _) _
  by_cases h1 : max x y ≤ 1099511627776
  · by_cases h2 : -1099511627776 ≤ min x y
    · go_enter Tryd.func70, Tryd.ntmps70
      go_wp2
      go_ret
      exact ⟨retb (by unfold inB; simp; omega), hb⟩
    · go_enter Tryd.func70, Tryd.ntmps70
      go_wp2
      go_ret
      exact ⟨retb (by unfold inB; simp; omega), hb⟩
  · go_enter Tryd.func70, Tryd.ntmps70
    go_wp2
    go_ret
    exact ⟨retb (by unfold inB; simp; omega), hb⟩

def orI (x y : Int) : Int := if x = 0 then y else x
theorem or_any (b o : Nat) (x y : Int) (w : World) (h0 : w.cell? ⟨b, o, none⟩ = some (.int .i64 x)) (h1 : w.cell? ⟨b, o + 1, none⟩ = some (.int .i64 y)) :
    Calls Tryd.prog 80 #[.slice (some ⟨b, o, none⟩) 2 2] w fun e w' => e = .returned (.int .i64 (orI x y)) ∧ w' = w := by
  by_cases hx : x = 0
  · subst hx
    by_cases hy : y = 0
    · subst hy
      go_enter Tryd.func80, Tryd.ntmps80
      go_wp2
      go_loopw [8] (fun i wr => ∃ k : Nat, k ≤ 2 ∧ i = .int .i64 k ∧ wr = w) (fun i _ => 2 - (intOf i).toNat)
      case atStart => exact ⟨0, by omega, rfl, rfl⟩
      case round =>
        obtain ⟨k, hk, rfl, rfl⟩ := hrel
        have : k = 0 ∨ k = 1 ∨ k = 2 := by omega
        rcases this with rfl | rfl | rfl
        · go_wp2
          exact ⟨⟨1, by omega, rfl, trivial⟩, by simp [intOf]⟩
        · go_wp2
          exact ⟨⟨2, by omega, rfl, trivial⟩, by simp [intOf]⟩
        · go_wp2
          go_ret
          exact ⟨rfl, rfl⟩
    · have hyb : (y != 0) = true := by simpa using hy
      go_enter Tryd.func80, Tryd.ntmps80
      go_wp2
      go_loopw [8] (fun i wr => ∃ k : Nat, k ≤ 1 ∧ i = .int .i64 k ∧ wr = w) (fun i _ => 2 - (intOf i).toNat)
      case atStart => exact ⟨0, by omega, rfl, rfl⟩
      case round =>
        obtain ⟨k, hk, rfl, rfl⟩ := hrel
        have : k = 0 ∨ k = 1 := by omega
        rcases this with rfl | rfl
        · go_wp2
          exact ⟨⟨1, by omega, rfl, trivial⟩, by simp [intOf]⟩
        · go_wp2
          go_ret
          exact ⟨rfl, rfl⟩
  · have hxb : (x != 0) = true := by simpa using hx
    go_enter Tryd.func80, Tryd.ntmps80
    go_wp2
    go_loopw [8] (fun i wr => i = .int .i64 0 ∧ wr = w) (fun i _ => 2 - (intOf i).toNat)
    case atStart => exact ⟨rfl, rfl⟩
    case round =>
      obtain ⟨rfl, rfl⟩ := hrel
      go_wp2
      go_ret
      exact ⟨by rw [orI, if_neg hx]; rfl, rfl⟩

/-- how two cells stand to each other -/
def ordI (p q : Int × Int) : Int := orI (Lib.compareInt p.2 q.2) (Lib.compareInt p.1 q.1)
theorem ordI_less (p q : Int × Int) : decide (0 ≤ ordI p q) = !lessB p q := by
  unfold ordI orI lessB Lib.compareInt
  by_cases h1 : p.2 < q.2
  · simp [h1]
  · by_cases h2 : p.2 > q.2
    · have : ¬ p.2 = q.2 := by omega
      simp [h1, h2, this]
    · have h3 : p.2 = q.2 := by omega
      by_cases h4 : p.1 < q.1
      · simp [h3, h4]
      · by_cases h5 : p.1 > q.1 <;> simp [h3, h4, h5]
theorem or_new (w : World) (a b : Int) :
    Calls Tryd.prog 80 #[.slice (some ⟨w.heap.size, 0, none⟩) 2 2] (w.alloc (Obj.cells #[.int .i64 a, .int .i64 b] 3)) fun e w' => e = .returned (.int .i64 (orI a b)) ∧ w' = (w.alloc (Obj.cells #[.int .i64 a, .int .i64 b] 3)) :=
  or_any w.heap.size 0 a b _ (new_cells w [.int .i64 a, .int .i64 b] 3 0 _ rfl) (new_cells w [.int .i64 a, .int .i64 b] 3 1 _ rfl)
set_option maxHeartbeats 4000000 in
set_option maxRecDepth 100000 in
theorem order_any (x y x' y' : Int) (w : World) :
    Calls Tryd.prog 71 #[.agg #[.int .i64 x, .int .i64 y], .agg #[.int .i64 x', .int .i64 y']] w fun e w' => e = .returned (.int .i64 (ordI (x, y) (x', y'))) ∧ Below w.heap.size w w' := by
  have a0 : ((w.alloc (Obj.cells #[.int .i64 x, .int .i64 y] 113)).alloc (Obj.cells #[.int .i64 x', .int .i64 y'] 113)).cell? ⟨w.heap.size, 0, none⟩ = some (.int .i64 x) := by
    simp [go_sem]
  have a1 : ((w.alloc (Obj.cells #[.int .i64 x, .int .i64 y] 113)).alloc (Obj.cells #[.int .i64 x', .int .i64 y'] 113)).cell? ⟨w.heap.size, 1, none⟩ = some (.int .i64 y) := by
    simp [go_sem]
  have b0 : ((w.alloc (Obj.cells #[.int .i64 x, .int .i64 y] 113)).alloc (Obj.cells #[.int .i64 x', .int .i64 y'] 113)).cell? ⟨w.heap.size + 1, 0, none⟩ = some (.int .i64 x') := by
    simp [go_sem]
  have b1 : ((w.alloc (Obj.cells #[.int .i64 x, .int .i64 y] 113)).alloc (Obj.cells #[.int .i64 x', .int .i64 y'] 113)).cell? ⟨w.heap.size + 1, 1, none⟩ = some (.int .i64 y') := by
    simp [go_sem]
  have hB : Below w.heap.size w ((w.alloc (Obj.cells #[.int .i64 x, .int .i64 y] 113)).alloc (Obj.cells #[.int .i64 x', .int .i64 y'] 113)) := ((Below.refl _ w).alloc (Nat.le_refl _) _).alloc (by simp) _
  go_enter Tryd.func71, Tryd.ntmps71
  go_wp2_with fail
  generalize ((w.alloc (Obj.cells #[.int .i64 x, .int .i64 y] 113)).alloc (Obj.cells #[.int .i64 x', .int .i64 y'] 113)) = W at *
  go_still_tail 10, (by kernel_rfl)
  still_call (Tryd.cmp_Compare_int _ _ _)
  repeat still_step
  still_call (Tryd.cmp_Compare_int _ _ _)
  refine wpStill_nil ?_
  change wpList _ _ _ _ _ W.drew
  have hB2 := hB.drew
  generalize W.drew = W2 at *
  go_wp2_with fail
  refine (or_new W2 _ _).mono ?_
  rintro e w' ⟨rfl, rfl⟩
  go_wp2
  go_ret
  exact ⟨rfl, hB2.alloc hB2.size _⟩

/-! ### the reference's -/
set_option maxRecDepth 100000 in
theorem rin_any (x y : Int) (w : World) : Calls Tryd.prog 60 #[.agg #[.int .i64 x, .int .i64 y]] w fun e w' => e = .returned (.bool (inB (x, y))) ∧ Below w.heap.size w w' := by
  have hb : Below w.heap.size w (w.alloc (Obj.cells #[.int .i64 x, .int .i64 y] 89)) := (Below.refl _ w).alloc (Nat.le_refl _) _
  by_cases h1 : -1099511627776 ≤ x
  · by_cases h2 : x ≤ 1099511627776
    · by_cases h3 : -1099511627776 ≤ y
      · by_cases h4 : y ≤ 1099511627776
        · go_enter Tryd.func60, Tryd.ntmps60
          go_wp2
          go_ret
          exact ⟨retb (by unfold inB; simp; omega), hb⟩
        · go_enter Tryd.func60, Tryd.ntmps60
          go_wp2
          go_ret
          exact ⟨retb (by unfold inB; simp; omega), hb⟩
      · go_enter Tryd.func60, Tryd.ntmps60
        go_wp2
        go_ret
        exact ⟨retb (by unfold inB; simp; omega), hb⟩
    · go_enter Tryd.func60, Tryd.ntmps60
      go_wp2
      go_ret
      exact ⟨retb (by unfold inB; simp; omega), hb⟩
  · go_enter Tryd.func60, Tryd.ntmps60
    go_wp2
    go_ret
    exact ⟨retb (by unfold inB; simp; omega), hb⟩
set_option maxRecDepth 100000 in
theorem rless_any (x y x' y' : Int) (w : World) : Calls Tryd.prog 61 #[.agg #[.int .i64 x, .int .i64 y], .agg #[.int .i64 x', .int .i64 y']] w fun e w' => e = .returned (.bool (lessB (x, y) (x', y'))) ∧ Below w.heap.size w w' := by
  have hb : Below w.heap.size w ((w.alloc (Obj.cells #[.int .i64 x, .int .i64 y] 89)).alloc (Obj.cells #[.int .i64 x', .int .i64 y'] 89)) := ((Below.refl _ w).alloc (Nat.le_refl _) _).alloc (by simp) _
  by_cases h1 : y < y'
  · go_enter Tryd.func61, Tryd.ntmps61
    go_wp2
    go_ret
    exact ⟨retb (by unfold lessB; simp; omega), hb⟩
  · by_cases h2 : y = y'
    · subst h2
      by_cases h3 : x < x'
      · go_enter Tryd.func61, Tryd.ntmps61
        go_wp2
        go_ret
        exact ⟨retb (by unfold lessB; simp; omega), hb⟩
      · go_enter Tryd.func61, Tryd.ntmps61
        go_wp2
        go_ret
        exact ⟨retb (by unfold lessB; simp; omega), hb⟩
    · have h2b : (y == y') = false := by simpa using h2
      go_enter Tryd.func61, Tryd.ntmps61
      go_wp2
      go_ret
      exact ⟨retb (by unfold lessB; simp; omega), hb⟩
end Go.Proofs.YtnpndkmcgpaibaaDoor
