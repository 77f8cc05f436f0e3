/- Plain functions for patterns: what is parsed, and what is printed. No walk in this text. -/
import Derived.Test.YtnpndkmcgpaibaaDoorU
import Derived.Test.YtnpndkmcgpaibaaDoorM
import Derived.Test.YtnpndkmcgpaibaaDoorCE
set_option linter.unusedVariables false
namespace Go.Proofs.YtnpndkmcgpaibaaDoor
open Go.RowKit

def xEq : List UInt8 := [120, 32, 61, 32]
def yEq : List UInt8 := [44, 32, 121, 32, 61, 32]
def ruleS : List UInt8 := [44, 32, 114, 117, 108, 101, 32, 61, 32, 66, 51, 47, 83, 50, 51]
/-- what stands ahead of the first of a part, and behind it -/
def cutAt (part : List UInt8) : List UInt8 → Option (List UInt8 × List UInt8)
  | [] => if part = [] then some ([], []) else none
  | c :: r => if part.isPrefixOf (c :: r) then some ([], (c :: r).drop part.length) else (cutAt part r).map fun p => (c :: p.1, p.2)
def numOk (l : List UInt8) : Bool := (cparse l).2 == 0
/-- what stands behind ", y = " -/
def tailOk (h : List UInt8) : Bool := match cutAt ruleS h with
  | some p => numOk p.1 && p.2.isEmpty
  | none => numOk h
def headOk (l : List UInt8) : Bool := match cutAt xEq l with
  | some p => p.1.isEmpty && match cutAt yEq p.2 with
    | some q => numOk q.1 && tailOk q.2
    | none => false
  | none => false
def isLine (c : UInt8) : Bool := c != 10
def lineLen (l : List UInt8) : Nat := runLen isLine l
/-- where a head begins -/
def headAt : Nat → List UInt8 → Nat
  | 0, _ => 0
  | f + 1, l => if l.head? = some 35 ∧ lineLen l < l.length then lineLen l + 1 + headAt f (l.drop (lineLen l + 1)) else 0

structure Pen where
  x : Int
  y : Int
  many : Int
  out : List (Int × Int)
def rowOf (x y : Int) (n : Nat) : List (Int × Int) := (List.range n).map fun (k : Nat) => (x + (k : Int), y)
def penDo (p : Pen) (t : UInt8) (n : Int) : Pen :=
  if t = 98 then { p with x := p.x + n }
  else if t = 36 then { p with x := 0, y := p.y + n }
  else { p with x := p.x + n, many := p.many + n, out := p.out ++ rowOf p.x p.y n.toNat }
def penErr (p : Pen) : Int := if maxCoord < p.x ∨ maxCoord < p.y then 2 else if 2000 < p.many then 3 else 0
def penRun : List It → Pen → List (Int × Int) × Int × Int
  | [], p => (p.out, 0, 0)
  | i :: r, p => if penErr (penDo p i.tag i.n) = 0 then penRun r (penDo p i.tag i.n) else ([], penErr (penDo p i.tag i.n), i.at_)
def pen0 : Pen := ⟨0, 0, 0, []⟩
/-- what is parsed, behind the head -/
def bodyP (at_ : Nat) (s : List UInt8) : List (Int × Int) × Int × Int :=
  if (lex s).2.1 = 0 then
    if (penRun (lex s).1 pen0).2.1 = 0 then ((penRun (lex s).1 pen0).1, 0, 0)
    else ([], (penRun (lex s).1 pen0).2.1, at_ + (penRun (lex s).1 pen0).2.2)
  else ([], (lex s).2.1, at_ + (lex s).2.2)
def parseP (s : List UInt8) : List (Int × Int) × Int × Int :=
  if 20000 < s.length then ([], 3, 0)
  else if lineLen (s.drop (headAt (s.length + 1) s)) < (s.drop (headAt (s.length + 1) s)).length ∧ headOk ((s.drop (headAt (s.length + 1) s)).take (lineLen (s.drop (headAt (s.length + 1) s)))) = true
    then bodyP (headAt (s.length + 1) s + lineLen (s.drop (headAt (s.length + 1) s)) + 1) (s.drop (headAt (s.length + 1) s + lineLen (s.drop (headAt (s.length + 1) s)) + 1))
  else ([], 32, headAt (s.length + 1) s)

/-- so many of a tag more; the last item may grow -/
def putIt (l : List It) (t : UInt8) (n : Int) : List It :=
  if n = 0 then l else
  match l.getLast? with
  | some z => if z.tag = t then l.dropLast ++ [⟨t, z.n + n, z.at_⟩] else l ++ [⟨t, n, 0⟩]
  | none => l ++ [⟨t, n, 0⟩]
structure Wr where
  items : List It
  x : Int
  y : Int
def prStep (bx : Int) (s : Wr) (c : Int × Int) : Wr :=
  if s.y < c.2 then ⟨putIt (putIt (putIt s.items 36 (c.2 - s.y)) 98 (c.1 - bx)) 111 1, c.1 + 1, c.2⟩
  else ⟨putIt (putIt s.items 98 (c.1 - s.x)) 111 1, c.1 + 1, s.y⟩
def prFold (bx by_ : Int) (l : List (Int × Int)) : Wr := l.foldl (prStep bx) ⟨[], bx, by_⟩
theorem prFold_succ (bx by_ : Int) (l : List (Int × Int)) (k : Nat) (h : k < l.length) : prFold bx by_ (l.take (k + 1)) = prStep bx (prFold bx by_ (l.take k)) l[k] := by
  unfold prFold; rw [List.take_succ_eq_append_getElem h, List.foldl_append]; rfl
def boxX (l : List (Int × Int)) : Int := (boxOf l).1.1
def boxY (l : List (Int × Int)) : Int := (boxOf l).1.2.1
def boxW (l : List (Int × Int)) : Int := (boxOf l).1.2.2.1
def boxH (l : List (Int × Int)) : Int := (boxOf l).1.2.2.2
def itemsOf (l : List (Int × Int)) : List It := (prFold (boxX l) (boxY l) l).items
def headText (w h : Int) : List UInt8 := xEq ++ dec w.toNat ++ yEq ++ dec h.toNat ++ ruleS
def printOf (l : List (Int × Int)) : List UInt8 × Int :=
  if rightB l = true then (headText (boxW l) (boxH l) ++ 10 :: (text (itemsOf l) ++ [33, 10]), 0) else ([], 1)

/-! ### a pen's way -/
def penAll : List It → Pen → Option Pen
  | [], p => some p
  | i :: r, p => if penErr (penDo p i.tag i.n) = 0 then penAll r (penDo p i.tag i.n) else none
theorem penRun_all : ∀ (l : List It) (p q : Pen), penAll l p = some q → penRun l p = (q.out, 0, 0)
  | [], p, q, h => by rw [penAll] at h; cases h; rfl
  | i :: r, p, q, h => by
    rw [penAll] at h
    split at h
    · rename_i h0; rw [penRun, if_pos h0]; exact penRun_all r _ _ h
    · cases h
theorem penAll_append : ∀ (a b : List It) (p : Pen), penAll (a ++ b) p = (penAll a p).bind (penAll b)
  | [], b, p => rfl
  | i :: r, b, p => by
    rw [List.cons_append, penAll, penAll]
    split
    · exact penAll_append r b _
    · rfl
theorem penAll_one (i : It) (p q : Pen) : penAll [i] p = some q ↔ penErr (penDo p i.tag i.n) = 0 ∧ penDo p i.tag i.n = q := by
  rw [penAll]
  split
  · rename_i h; simp [penAll, h]
  · rename_i h; simp [h]
theorem rowOf_add (x y : Int) (a b : Nat) : rowOf x y (a + b) = rowOf x y a ++ rowOf (x + a) y b := by
  unfold rowOf
  rw [List.range_add, List.map_append, List.map_map]
  congr 1
  apply List.map_congr_left
  intro k _
  simp only [Function.comp]
  congr 1
  push_cast
  omega
theorem penDo_add (p : Pen) (t : UInt8) (a b : Int) (ha : 0 ≤ a) (hb : 0 ≤ b) : penDo (penDo p t a) t b = penDo p t (a + b) := by
  unfold penDo
  split
  · simp [Int.add_assoc]
  · split
    · simp [Int.add_assoc]
    · have h1 : (a + b).toNat = a.toNat + b.toNat := by omega
      have h2 : ((a.toNat : Nat) : Int) = a := Int.toNat_of_nonneg ha
      simp only [h1, rowOf_add, h2, Int.add_assoc, List.append_assoc]
theorem penDo_zero (p : Pen) (t : UInt8) (ht : t ≠ 36) : penDo p t 0 = p := by
  unfold penDo
  rw [if_neg ht]
  split
  · simp
  · simp [rowOf]
/-- a pen that came so far -/
structure Came (l : List It) (q : Pen) : Prop where
  all : penAll l pen0 = some q
  each : ∀ x ∈ l, valid x
  x0 : 0 ≤ q.x
  y0 : 0 ≤ q.y
theorem penAll_nonneg : ∀ (l : List It) (p q : Pen), (∀ x ∈ l, valid x) → 0 ≤ p.x → 0 ≤ p.y → penAll l p = some q → 0 ≤ q.x ∧ 0 ≤ q.y
  | [], p, q, _, h0, h1, h => by rw [penAll] at h; cases h; exact ⟨h0, h1⟩
  | i :: r, p, q, hv, h0, h1, h => by
    rw [penAll] at h
    have hi := (hv i (List.mem_cons_self ..)).2.1
    split at h
    · refine penAll_nonneg r _ q (fun x hx => hv x (List.mem_cons_of_mem _ hx)) ?_ ?_ h
      · unfold penDo; split
        · dsimp only; omega
        · split
          · exact Int.le_refl _
          · dsimp only; omega
      · unfold penDo; split
        · exact h1
        · split
          · dsimp only; omega
          · exact h1
    · cases h
theorem penErr_zero {p : Pen} (h : penErr p = 0) : p.x ≤ maxCoord ∧ p.y ≤ maxCoord ∧ p.many ≤ 2000 := by
  unfold penErr at h
  split at h
  · cases h
  · rename_i h1
    split at h
    · cases h
    · exact ⟨by omega, by omega, by omega⟩
theorem penErr_of {p : Pen} (h0 : p.x ≤ maxCoord) (h1 : p.y ≤ maxCoord) (h2 : p.many ≤ 2000) : penErr p = 0 := by
  unfold penErr; rw [if_neg (by omega), if_neg (by omega)]
theorem pen_room {p : Pen} {t : UInt8} {n : Int} (ht : isTag t = true) (hn : 1 ≤ n) (hx : 0 ≤ p.x) (hy : 0 ≤ p.y) (h : penErr (penDo p t n) = 0) (a : Int) : valid ⟨t, n, a⟩ := by
  refine ⟨ht, hn, ?_⟩
  have := penErr_zero h
  revert this
  unfold penDo
  split
  · dsimp only; omega
  · split
    · dsimp only; omega
    · dsimp only; omega
theorem penDo_nonneg {p : Pen} {t : UInt8} {n : Int} (hn : 0 ≤ n) (hx : 0 ≤ p.x) (hy : 0 ≤ p.y) : 0 ≤ (penDo p t n).x ∧ 0 ≤ (penDo p t n).y := by
  unfold penDo
  split
  · dsimp only; omega
  · split
    · dsimp only; omega
    · dsimp only; omega
theorem came_put {l : List It} {q : Pen} {t : UInt8} {n : Int} (h : Came l q) (ht : isTag t = true) (hn : 0 ≤ n) (h36 : t = 36 → n ≠ 0) (he : penErr (penDo q t n) = 0) : Came (putIt l t n) (penDo q t n) := by
  have hnn := penDo_nonneg (t := t) hn h.x0 h.y0
  unfold putIt
  by_cases h0 : n = 0
  · subst h0
    rw [if_pos rfl, penDo_zero q t (fun e => h36 e rfl)]
    exact h
  · rw [if_neg h0]
    have hnew : ∀ a, Came (l ++ [⟨t, n, a⟩]) (penDo q t n) := fun a => by
      refine ⟨?_, ?_, hnn.1, hnn.2⟩
      · rw [penAll_append, h.all]; exact (penAll_one _ _ _).2 ⟨he, rfl⟩
      · intro x hx
        rcases List.mem_append.1 hx with hx | hx
        · exact h.each x hx
        · rw [List.mem_singleton.1 hx]; exact pen_room ht (by omega) h.x0 h.y0 he a
    cases hg : l.getLast? with
    | none => exact hnew 0
    | some z =>
      dsimp only
      by_cases hz : z.tag = t
      · rw [if_pos hz]
        have hl : l = l.dropLast ++ [z] := by
          obtain ⟨ys, rfl⟩ := List.getLast?_eq_some_iff.1 hg
          simp
        have hv : ∀ x ∈ l.dropLast, valid x := fun x hx => h.each x (List.dropLast_subset l hx)
        have hzv : valid z := h.each z (by rw [hl]; simp)
        have ha := h.all
        rw [hl, penAll_append] at ha
        obtain ⟨q0, hq0, hz2⟩ := Option.bind_eq_some_iff.1 ha
        obtain ⟨_, hz3⟩ := (penAll_one _ _ _).1 hz2
        have hq0n := penAll_nonneg _ _ _ hv (Int.le_refl 0) (Int.le_refl 0) hq0
        have hadd : penDo q t n = penDo q0 t (z.n + n) := by
          rw [← hz3, hz]; exact penDo_add q0 t z.n n (by have := hzv.2.1; omega) hn
        rw [hadd] at he hnn ⊢
        refine ⟨?_, ?_, hnn.1, hnn.2⟩
        · rw [penAll_append, hq0]; exact (penAll_one _ _ _).2 ⟨he, rfl⟩
        · intro x hx
          rcases List.mem_append.1 hx with hx | hx
          · exact hv x hx
          · rw [List.mem_singleton.1 hx]; exact pen_room ht (by have := hzv.2.1; omega) hq0n.1 hq0n.2 he _
      · rw [if_neg hz]; exact hnew 0
end Go.Proofs.YtnpndkmcgpaibaaDoor
