/- A cell put in its place, by the reference: the plain function, and rows of cells that a call owns. -/
import Derived.Test.YtnpndkmcgpaibaaDoorCF
import Derived.Test.YtnpndkmcgpaibaaDoorO
set_option linter.unusedVariables false
namespace Go.Proofs.YtnpndkmcgpaibaaDoor
open Go.RowKit Go.Sort
attribute [local go_sem high] eqA89

theorem infoCell : (Tryd.prog.info? 89).map (fun i => (i.zero, i.size, i.bytes)) = some (some (.agg #[.int .i64 0, .int .i64 0]), 2, 16) := by kernel_rfl
def ceCell (x : Int × Int) : List Value := [.int .i64 x.1, .int .i64 x.2]
def ceCells (l : List (Int × Int)) : List Value := l.flatMap ceCell
theorem ceCells_length (l : List (Int × Int)) : (ceCells l).length = l.length * 2 := by
  induction l with
  | nil => rfl
  | cons x r ih => simp only [ceCells, List.flatMap_cons, List.length_append, List.length_cons] at *; rw [ih]; simp [ceCell]; omega
theorem ceCells_append (a b : List (Int × Int)) : ceCells (a ++ b) = ceCells a ++ ceCells b := by simp [ceCells]
theorem ceCells_get (l : List (Int × Int)) (i j : Nat) (h : i < l.length) (hj : j < 2) : (ceCells l)[i * 2 + j]? = (ceCell l[i])[j]? := by
  induction l generalizing i with
  | nil => simp at h
  | cons x r ih =>
    show (ceCell x ++ ceCells r)[i * 2 + j]? = _
    cases i with
    | zero => rw [List.getElem?_append_left (by simp [ceCell]; omega)]; simp
    | succ i =>
      rw [List.getElem?_append_right (by simp [ceCell]; omega)]
      simp only [ceCell, List.length_cons, List.length_nil, List.getElem_cons_succ]
      rw [show (i + 1) * 2 + j - (0 + 1 + 1) = i * 2 + j from by omega]
      exact ih i (by simpa using h)
theorem crow_of_owns {w : World} {base : Nat} {v : Value} {l : List (Int × Int)} (h : w.ownsRow base 89 2 v l.length (ceCells l)) : CRow w v l := by
  rcases h.2 with ⟨rfl, h0⟩ | ⟨g, cap, cur, rfl, hg, hh, hc, hm, hs, ht⟩
  · obtain rfl : l = [] := List.eq_nil_of_length_eq_zero h0
    exact ⟨none, 0, rfl, fun i hi => by simp at hi⟩
  · refine ⟨_, cap, rfl, fun i hi => ⟨g, 0, rfl, (Array.getElem?_eq_some_iff.1 hh).1, ?_⟩⟩
    have key : ∀ j, j < 2 → w.cell? ⟨g, 0 + i * 2 + j, none⟩ = (ceCell l[i])[j]? := by
      intro j hj
      rw [Lib.cell_of_heap hh, ← ceCells_get l i j hi hj, ← ht, List.getElem?_take, if_pos (by omega)]
      simp
    exact ⟨key 0 (by omega), key 1 (by omega)⟩

def putStep (c : Int × Int) (s : List (Int × Int) × Bool) (x : Int × Int) : List (Int × Int) × Bool :=
  let t := if !s.2 && (x == c || lessB c x) then (s.1 ++ [c], true) else s
  if x == c then t else (t.1 ++ [x], t.2)
def putFold (c : Int × Int) (l : List (Int × Int)) : List (Int × Int) × Bool := l.foldl (putStep c) ([], false)
def putL (l : List (Int × Int)) (c : Int × Int) : List (Int × Int) := if (putFold c l).2 then (putFold c l).1 else (putFold c l).1 ++ [c]
theorem putFold_succ (c : Int × Int) (l : List (Int × Int)) (k : Nat) (h : k < l.length) : putFold c (l.take (k + 1)) = putStep c (putFold c (l.take k)) l[k] := by
  unfold putFold; rw [List.take_succ_eq_append_getElem h, List.foldl_append]; rfl
theorem putFold_len (c : Int × Int) (l : List (Int × Int)) : (putFold c l).1.length + (if (putFold c l).2 then 0 else 1) ≤ l.length + 1 := by
  suffices h : ∀ (l : List (Int × Int)) (s : List (Int × Int) × Bool), (l.foldl (putStep c) s).1.length + (if (l.foldl (putStep c) s).2 then 0 else 1) ≤ l.length + s.1.length + (if s.2 then 0 else 1) by
    have := h l ([], false)
    exact Nat.le_trans this (by simp)
  intro l
  induction l with
  | nil => rintro ⟨o, d⟩; cases d <;> simp
  | cons x r ih =>
    intro s
    refine Nat.le_trans (ih _) ?_
    obtain ⟨o, d⟩ := s
    unfold putStep
    cases d <;> simp <;> split <;> split <;> simp_all <;> omega
end Go.Proofs.YtnpndkmcgpaibaaDoor
