/- Plain functions over lists of bytes: what the program's texts are read as. No program in this text. -/
import Derived.WalkKit
import Derived.Lib.OthersKept
import Derived.Lib.ItoaNum
set_option linter.unusedVariables false
namespace Go.Proofs.YtnpndkmcgpaibaaDoor
open Go.RowKit

/-- a text out of its bytes -/
def S (l : List UInt8) : ByteArray := ⟨l.toArray⟩
theorem S_size (l : List UInt8) : (S l).size = l.length := by simp [S, ByteArray.size]
theorem S_toList (l : List UInt8) : (S l).toList = l := by
  rw [ByteArray.toList_eq]; simp [S]
theorem S_get (l : List UInt8) (i : Nat) (h : i < (S l).size) : (S l)[i] = l[i]'(by simpa [S_size] using h) := by
  simp [S, ByteArray.getElem_eq_getElem_data]
theorem S_extract (l : List UInt8) (a b : Nat) : (S l).extract a b = S ((l.take b).drop a) := by
  apply ByteArray.ext; simp [S, List.drop_take]
theorem S_append (a b : List UInt8) : S a ++ S b = S (a ++ b) := by
  apply ByteArray.ext; simp [S]
theorem S_mk (l : List UInt8) : (⟨l.toArray⟩ : ByteArray) = S l := rfl
theorem S_of (s : ByteArray) : S s.data.toList = s := rfl
theorem S_inj {a b : List UInt8} (h : S a = S b) : a = b := by
  have := congrArg ByteArray.data h
  simpa [S] using this

/-- how many bytes ahead are of some -/
def runLen (p : UInt8 → Bool) (l : List UInt8) : Nat := (l.takeWhile p).length
theorem runLen_nil (p : UInt8 → Bool) : runLen p [] = 0 := rfl
theorem runLen_cons_true {p : UInt8 → Bool} {c : UInt8} (r : List UInt8) (h : p c = true) : runLen p (c :: r) = runLen p r + 1 := by
  simp [runLen, h]
theorem runLen_cons_false {p : UInt8 → Bool} {c : UInt8} (r : List UInt8) (h : p c = false) : runLen p (c :: r) = 0 := by
  simp [runLen, h]
theorem runLen_le (p : UInt8 → Bool) (l : List UInt8) : runLen p l ≤ l.length := by
  induction l with
  | nil => simp [runLen]
  | cons c r ih =>
    cases h : p c with
    | true => rw [runLen_cons_true r h]; simp; omega
    | false => rw [runLen_cons_false r h]; omega
theorem runLen_drop (p : UInt8 → Bool) (l : List UInt8) : runLen p (l.drop (runLen p l)) = 0 := by
  induction l with
  | nil => rfl
  | cons c r ih =>
    cases h : p c with
    | true => rw [runLen_cons_true r h]; simpa using ih
    | false => rw [runLen_cons_false r h]; simp [runLen_cons_false r h]
theorem runLen_head {p : UInt8 → Bool} {l : List UInt8} {c : UInt8} {r : List UInt8} (h : l.drop (runLen p l) = c :: r) : p c = false := by
  have h2 := runLen_drop p l
  rw [h] at h2
  cases hc : p c with
  | false => rfl
  | true => rw [runLen_cons_true r hc] at h2; omega

def isDigit (c : UInt8) : Bool := 48 ≤ c && c ≤ 57
def isBlank (c : UInt8) : Bool := c == 32 || c == 9 || c == 10 || c == 13
def isTag (c : UInt8) : Bool := c == 98 || c == 111 || c == 36
def digitsS : List UInt8 := [48, 49, 50, 51, 52, 53, 54, 55, 56, 57]
def blanksS : List UInt8 := [32, 9, 10, 13]
theorem all_u8 {p : UInt8 → Prop} (h : ∀ n : Fin 256, p (UInt8.ofNat n.val)) (c : UInt8) : p c := by
  have := h ⟨c.toNat, c.toNat_lt⟩
  simpa using this
theorem digits_has (c : UInt8) : digitsS.contains c = isDigit c := by
  revert c; apply all_u8; decide +kernel
theorem blanks_has (c : UInt8) : blanksS.contains c = isBlank c := by
  revert c; apply all_u8; decide +kernel

/-- a number's text, read: the number, and the error's number -/
def maxCount : Int := 4611686018427387903
def cpLoop : List UInt8 → Nat → Int → Bool → Int × Int
  | [], _, n, big => if big then (0, 21) else (n, 0)
  | c :: r, i, n, big =>
    if isDigit c = false ∨ (i = 1 ∧ n = 0) then (0, 20)
    else if (maxCount - (c.toNat - 48 : Int)) / 10 < n then cpLoop r (i + 1) n true
    else if big then cpLoop r (i + 1) n true
    else cpLoop r (i + 1) (10 * n + (c.toNat - 48 : Int)) false
def cparse (l : List UInt8) : Int × Int := if l = [] then (0, 20) else cpLoop l 0 0 false

/-- an item's kind, its number, and where it begins -/
structure It where
  tag : UInt8
  n : Int
  at_ : Int
  deriving DecidableEq, Inhabited

def maxCoord : Int := 1099511627776
/-- one item at the begin of a text: an error; or its tag, its number, and how many bytes it has -/
def item (l : List UInt8) : Int ⊕ (UInt8 × Int × Nat) :=
  let k := runLen isDigit l
  match l.drop k with
  | [] => .inl 30
  | c :: _ =>
    if isTag c = false then .inl 30
    else if k = 0 then .inr (c, 1, 1)
    else if l.head? = some 48 then .inl 30
    else if (cparse (l.take k)).2 ≠ 0 ∨ maxCoord < (cparse (l.take k)).1 then .inl 2
    else .inr (c, (cparse (l.take k)).1, k + 1)

/-- items, up to the end -/
def lexLoop : Nat → List UInt8 → Int → List It → List It × Int × Int
  | 0, _, at_, _ => ([], 31, at_)
  | f + 1, l, at_, acc =>
    let k := runLen isBlank l
    let l1 := l.drop k
    match l1 with
    | [] => ([], 31, at_ + k)
    | c :: _ =>
      if c = 33 then (acc, 0, at_ + k)
      else match item l1 with
        | .inl e => ([], e, at_ + k)
        | .inr (t, n, m) => lexLoop f (l1.drop m) (at_ + k + m) (acc ++ [⟨t, n, at_ + k⟩])
def lex (l : List UInt8) : List It × Int × Int :=
  if 20000 < l.length then ([], 3, 0) else lexLoop (l.length + 1) l 0 []

/-- decimal digits of a number -/
abbrev dec (n : Nat) : List UInt8 := Lib.decDigits n
/-- items' text -/
def itText (x : It) : List UInt8 :=
  if isTag x.tag = true ∧ 1 ≤ x.n ∧ x.n ≤ maxCoord then (if 1 < x.n then dec x.n.toNat else []) ++ [x.tag] else []
def text (l : List It) : List UInt8 := l.flatMap itText
end Go.Proofs.YtnpndkmcgpaibaaDoor
