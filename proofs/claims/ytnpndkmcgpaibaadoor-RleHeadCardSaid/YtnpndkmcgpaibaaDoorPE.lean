/- Plain: a pen's way, item by item. -/
import Derived.Test.YtnpndkmcgpaibaaDoorPD
set_option linter.unusedVariables false
namespace Go.Proofs.YtnpndkmcgpaibaaDoor
open Go.RowKit

theorem parseP_eq (l : List UInt8) : parseP l = if 20000 < l.length then ([], 3, 0)
    else if lineLen (l.drop (hAt l)) < (l.drop (hAt l)).length ∧ headOk ((l.drop (hAt l)).take (lineLen (l.drop (hAt l)))) = true
      then bodyP (hAt l + lineLen (l.drop (hAt l)) + 1) (l.drop (hAt l + lineLen (l.drop (hAt l)) + 1))
    else ([], 32, (hAt l : Nat)) := rfl
structure PenInv (p : Pen) : Prop where
  x0 : 0 ≤ p.x
  x1 : p.x ≤ 1099511627776
  y0 : 0 ≤ p.y
  y1 : p.y ≤ 1099511627776
  many : p.many = p.out.length
  len : p.out.length ≤ 2000
theorem rowOf_len (x y : Int) (n : Nat) : (rowOf x y n).length = n := by simp [rowOf]
theorem rowOf_succ (x y : Int) (n : Nat) : rowOf x y (n + 1) = rowOf x y n ++ [(x + n, y)] := by
  rw [rowOf_add]; simp [rowOf]
theorem pen_step {p : Pen} {z : It} (h : PenInv p) (hz : valid z) (he : penErr (penDo p z.tag z.n) = 0) : PenInv (penDo p z.tag z.n) := by
  obtain ⟨e1, e2, e3⟩ := penErr_zero he
  obtain ⟨ht, hn, hm⟩ := hz
  obtain ⟨a, b, c, d, m, l⟩ := h
  revert e1 e2 e3
  unfold penDo maxCoord
  split
  · intro e1 e2 e3; exact ⟨by dsimp only at *; omega, by dsimp only at *; omega, c, by dsimp only at *; omega, m, l⟩
  · split
    · intro e1 e2 e3; exact ⟨by dsimp only; omega, by dsimp only; omega, by dsimp only; omega, by dsimp only at *; omega, m, l⟩
    · intro e1 e2 e3
      dsimp only at e1 e2 e3
      refine ⟨by dsimp only; omega, by dsimp only; omega, c, by dsimp only; omega, ?_, ?_⟩
      · dsimp only; rw [List.length_append, rowOf_len, m]; push_cast; omega
      · dsimp only; rw [List.length_append, rowOf_len]; omega
theorem pen_inv : ∀ (l : List It) (p q : Pen), (∀ x ∈ l, valid x) → PenInv p → penAll l p = some q → PenInv q
  | [], p, q, _, hp, h => by rw [penAll] at h; cases h; exact hp
  | i :: r, p, q, hv, hp, h => by
    rw [penAll] at h
    split at h
    · rename_i h0
      exact pen_inv r _ q (fun x hx => hv x (List.mem_cons_of_mem _ hx)) (pen_step hp (hv i (List.mem_cons_self ..)) h0) h
    · cases h
theorem pen0_inv : PenInv pen0 := ⟨by decide, by decide, by decide, by decide, rfl, by decide⟩
theorem penRun_split : ∀ (a b : List It) (p q : Pen), penAll a p = some q → penRun (a ++ b) p = penRun b q
  | [], b, p, q, h => by rw [penAll] at h; cases h; rfl
  | i :: r, b, p, q, h => by
    rw [penAll] at h
    split at h
    · rename_i h0
      rw [List.cons_append, penRun, if_pos h0]
      exact penRun_split r b _ q h
    · cases h
theorem penRun_at {its : List It} {k : Nat} {p : Pen} (hk : k < its.length) (h : penAll (its.take k) pen0 = some p) :
    penRun its pen0 = if penErr (penDo p its[k].tag its[k].n) = 0 then penRun (its.drop (k + 1)) (penDo p its[k].tag its[k].n) else ([], penErr (penDo p its[k].tag its[k].n), its[k].at_) := by
  have e : its = its.take k ++ its[k] :: its.drop (k + 1) := by rw [← List.drop_eq_getElem_cons hk, List.take_append_drop]
  have h2 := penRun_split (its.take k) (its[k] :: its.drop (k + 1)) pen0 p h
  rw [← e] at h2
  rw [h2, penRun]
theorem penAll_succ {its : List It} {k : Nat} {p : Pen} (hk : k < its.length) (h : penAll (its.take k) pen0 = some p) (he : penErr (penDo p its[k].tag its[k].n) = 0) :
    penAll (its.take (k + 1)) pen0 = some (penDo p its[k].tag its[k].n) := by
  rw [List.take_succ_eq_append_getElem hk, penAll_append, h]
  exact (penAll_one _ _ _).2 ⟨he, rfl⟩
theorem body_err {a : Nat} {s : List UInt8} {its : List It} {pl e : Int} {r : List (Int × Int) × Int × Int} (hl : lex s = (its, 0, pl)) (hr : penRun its pen0 = r) : bodyP a s = if r.2.1 = 0 then (r.1, 0, 0) else ([], r.2.1, a + r.2.2) := by
  unfold bodyP
  rw [hl]
  dsimp only
  rw [if_pos rfl, hr]
theorem pen_tags {c : UInt8} (h : isTag c = true) : c = 98 ∨ c = 36 ∨ c = 111 := by
  unfold isTag at h; simp at h; rcases h with (h | h) | h <;> simp [h]
end Go.Proofs.YtnpndkmcgpaibaaDoor
