/- Plain bounds on what a pattern's printing holds. -/
import Derived.Test.YtnpndkmcgpaibaaDoorPB
import Derived.Test.YtnpndkmcgpaibaaDoorCK
set_option linter.unusedVariables false
namespace Go.Proofs.YtnpndkmcgpaibaaDoor
open Go.RowKit

def Bnd (B : Int) (l : List It) : Prop := ∀ z ∈ l, -B ≤ z.n ∧ z.n ≤ B
theorem Bnd.mono {B C : Int} {l : List It} (h : Bnd B l) (hc : B ≤ C) : Bnd C l := fun z hz => by have := h z hz; omega
theorem putIt_bnd {B C : Int} {l : List It} {t : UInt8} {n : Int} (h : Bnd B l) (hn : -C ≤ n ∧ n ≤ C) (hB : 0 ≤ B) : Bnd (B + C) (putIt l t n) := by
  by_cases h0 : n = 0
  · subst h0; rw [putIt_zero]; exact h.mono (by omega)
  · by_cases he : l = []
    · subst he
      rw [putIt_nil h0]
      intro z hz
      rw [List.mem_singleton.1 hz]
      dsimp only
      omega
    · obtain ⟨d, y, rfl⟩ := list_snoc l he
      have hy := h y (by simp)
      have hd : ∀ z ∈ d, -B ≤ z.n ∧ z.n ≤ B := fun z hz => h z (by simp [hz])
      by_cases ht : y.tag = t
      · rw [putIt_same h0 ht]
        intro z hz
        rcases List.mem_append.1 hz with hz | hz
        · have := hd z hz; omega
        · rw [List.mem_singleton.1 hz]; dsimp only; omega
      · rw [putIt_other h0 ht]
        intro z hz
        rcases List.mem_append.1 hz with hz | hz
        · rcases List.mem_append.1 hz with hz | hz
          · have := hd z hz; omega
          · rw [List.mem_singleton.1 hz]; omega
        · rw [List.mem_singleton.1 hz]; dsimp only; omega
/-- how far a printing's state may be -/
structure PrB (k : Nat) (s : Wr) : Prop where
  x : -1099511627777 ≤ s.x ∧ s.x ≤ 1099511627777
  y : -1099511627777 ≤ s.y ∧ s.y ≤ 1099511627777
  len : s.items.length ≤ 3 * k
  bnd : Bnd (k * 17592186044416) s.items
theorem prStep_lt {bx : Int} {s : Wr} {c : Int × Int} (h : s.y < c.2) : prStep bx s c = ⟨putIt (putIt (putIt s.items 36 (c.2 - s.y)) 98 (c.1 - bx)) 111 1, c.1 + 1, c.2⟩ := by
  unfold prStep; rw [if_pos h]
theorem prStep_ge {bx : Int} {s : Wr} {c : Int × Int} (h : ¬ s.y < c.2) : prStep bx s c = ⟨putIt (putIt s.items 98 (c.1 - s.x)) 111 1, c.1 + 1, s.y⟩ := by
  unfold prStep; rw [if_neg h]
theorem prStep_bnd {bx : Int} {k : Nat} {s : Wr} {c : Int × Int} (h : PrB k s) (hb : -1099511627777 ≤ bx ∧ bx ≤ 1099511627777) (hc : -1099511627776 ≤ c.1 ∧ c.1 ≤ 1099511627776 ∧ -1099511627776 ≤ c.2 ∧ c.2 ≤ 1099511627776) : PrB (k + 1) (prStep bx s c) := by
  obtain ⟨hx, hy, hl, hB⟩ := h
  by_cases hlt : s.y < c.2
  · rw [prStep_lt hlt]
    have b1 := putIt_bnd (t := 36) (n := c.2 - s.y) (C := 4398046511104) hB (by omega) (by omega)
    have b2 := putIt_bnd (t := 98) (n := c.1 - bx) (C := 4398046511104) b1 (by omega) (by omega)
    have b3 := putIt_bnd (t := 111) (n := 1) (C := 4398046511104) b2 (by omega) (by omega)
    have l1 := putIt_len s.items 36 (c.2 - s.y)
    have l2 := putIt_len (putIt s.items 36 (c.2 - s.y)) 98 (c.1 - bx)
    have l3 := putIt_len (putIt (putIt s.items 36 (c.2 - s.y)) 98 (c.1 - bx)) 111 1
    exact ⟨by dsimp only; omega, by dsimp only; omega, by dsimp only; omega, b3.mono (by push_cast; omega)⟩
  · rw [prStep_ge hlt]
    have b2 := putIt_bnd (t := 98) (n := c.1 - s.x) (C := 4398046511104) hB (by omega) (by omega)
    have b3 := putIt_bnd (t := 111) (n := 1) (C := 4398046511104) b2 (by omega) (by omega)
    have l2 := putIt_len s.items 98 (c.1 - s.x)
    have l3 := putIt_len (putIt s.items 98 (c.1 - s.x)) 111 1
    exact ⟨by dsimp only; omega, by dsimp only; omega, by dsimp only; omega, b3.mono (by push_cast; omega)⟩
theorem prFold_bnd {bx by_ : Int} {l : List (Int × Int)} (hr : rightB l = true) (hb : -1099511627777 ≤ bx ∧ bx ≤ 1099511627777) (hy : -1099511627777 ≤ by_ ∧ by_ ≤ 1099511627777) : ∀ k, k ≤ l.length → PrB k (prFold bx by_ (l.take k)) := by
  intro k
  induction k with
  | zero => intro _; exact ⟨hb, hy, by simp [prFold], by simp [prFold, Bnd]⟩
  | succ k ih =>
    intro h
    rw [prFold_succ _ _ _ _ (by omega)]
    exact prStep_bnd (ih (by omega)) hb (right_in hr k (by omega))
theorem box_in {l : List (Int × Int)} (hr : rightB l = true) : (-1099511627777 ≤ boxX l ∧ boxX l ≤ 1099511627777) ∧ (-1099511627777 ≤ boxY l ∧ boxY l ≤ 1099511627777) := by
  by_cases h : l = []
  · subst h; exact ⟨⟨by decide, by decide⟩, ⟨by decide, by decide⟩⟩
  · have h0 : 0 < l.length := List.length_pos_iff.2 h
    have hs := sides_in hr h0 l.length (Nat.le_refl _)
    have hr0 := right_in hr 0 h0
    have hne : ¬ (l = [] ∨ rightB l = false) := by
      rintro (h' | h')
      · exact h h'
      · rw [hr] at h'; cases h'
    have eX : boxX l = lefts l l.length := by unfold boxX boxOf; rw [if_neg hne]
    have eY : boxY l = (l[0]).2 := by unfold boxY boxOf; rw [if_neg hne, getD_at _ _ 0 h0]
    omega
theorem right_len {l : List (Int × Int)} (hr : rightB l = true) : l.length ≤ 2000 := by
  unfold rightB at hr; rw [Bool.and_eq_true] at hr; simpa using hr.2
end Go.Proofs.YtnpndkmcgpaibaaDoor
