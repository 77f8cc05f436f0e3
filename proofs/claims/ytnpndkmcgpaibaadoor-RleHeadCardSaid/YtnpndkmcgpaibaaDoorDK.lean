/- Plain: lines ahead of a head, and what a head says, make no difference. No walk in this text. -/
import Derived.Test.YtnpndkmcgpaibaaDoorPG
import Derived.Test.YtnpndkmcgpaibaaDoorDB
set_option linter.unusedVariables false
namespace Go.Proofs.YtnpndkmcgpaibaaDoor
open Go.RowKit

/-- a line with # ahead -/
def lineOf (l : List UInt8) : List UInt8 := 35 :: ((l.take 20).filter isLine ++ [10])
def linesOf (ls : List (List UInt8)) : List UInt8 := ls.flatMap lineOf
theorem lineOf_len (l : List UInt8) : (lineOf l).length ≤ 22 := by
  have h := List.length_filter_le isLine (l.take 20)
  rw [List.length_take] at h
  simp only [lineOf, List.length_cons, List.length_append, List.length_nil]
  omega
theorem linesOf_len (ls : List (List UInt8)) : (linesOf ls).length ≤ 22 * ls.length := by
  induction ls with
  | nil => simp [linesOf]
  | cons l r ih =>
    have := lineOf_len l
    simp only [linesOf, List.flatMap_cons, List.length_append, List.length_cons] at ih ⊢
    omega
theorem linesOf_snoc (ls : List (List UInt8)) (l : List UInt8) : linesOf (ls ++ [l]) = linesOf ls ++ lineOf l := by simp [linesOf]
theorem filter_line_all (l : List UInt8) : (l.filter isLine).all isLine = true := List.all_eq_true.2 fun x hx => (List.mem_filter.1 hx).2
theorem hAt_line (l r : List UInt8) : hAt (lineOf l ++ r) = (lineOf l).length + hAt r := by
  obtain ⟨m, hm, ha⟩ : ∃ m, (l.take 20).filter isLine = m ∧ m.all isLine = true := ⟨_, rfl, filter_line_all _⟩
  have he : lineOf l ++ r = (35 :: m) ++ 10 :: r := by unfold lineOf; rw [hm]; simp
  have hz : (lineOf l).length = (35 :: m).length + 1 := by unfold lineOf; rw [hm]; simp
  have ha2 : (35 :: m).all isLine = true := by rw [List.all_cons, ha]; decide
  have hll : lineLen ((35 :: m) ++ 10 :: r) = (35 :: m).length := runLen_all _ 10 r ha2 (by decide)
  rw [he, hz, hAt_step (by simp) (by rw [hll]; simp), hll]
  congr 2
  rw [show (35 :: m).length + 1 = ((35 :: m) ++ [10]).length from by simp, show (35 :: m) ++ 10 :: r = ((35 :: m) ++ [10]) ++ r from by simp, List.drop_left]
theorem hAt_lines (ls : List (List UInt8)) (r : List UInt8) : hAt (linesOf ls ++ r) = (linesOf ls).length + hAt r := by
  induction ls with
  | nil => simp [linesOf]
  | cons l q ih =>
    have : linesOf (l :: q) = lineOf l ++ linesOf q := by simp [linesOf]
    rw [this, List.append_assoc, hAt_line, ih, List.length_append]
    omega
/-- what is parsed behind lines with # ahead -/
theorem parse_lines (ls : List (List UInt8)) (a b : List UInt8) (h0 : a.head? = some 120) (hl : a.all isLine = true) (hlen : (linesOf ls ++ (a ++ 10 :: b)).length ≤ 20000) :
    parseP (linesOf ls ++ (a ++ 10 :: b)) = if headOk a = true then bodyP ((linesOf ls).length + a.length + 1) b else ([], 32, ((linesOf ls).length : Int)) := by
  have hs : hAt (a ++ 10 :: b) = 0 := hAt_stop (by
    cases a with
    | nil => cases h0
    | cons c r => simp at h0; subst h0; simp)
  have hh : headAt ((linesOf ls ++ (a ++ 10 :: b)).length + 1) (linesOf ls ++ (a ++ 10 :: b)) = (linesOf ls).length := by
    have := hAt_lines ls (a ++ 10 :: b)
    rw [hs, Nat.add_zero] at this
    exact this
  have hll : lineLen (a ++ 10 :: b) = a.length := runLen_all _ 10 b hl (by decide)
  unfold parseP
  rw [if_neg (by omega), hh, List.drop_left, hll]
  have h1 : a.length < (a ++ 10 :: b).length := by simp
  rw [List.take_left]
  have h2 : (linesOf ls ++ (a ++ 10 :: b)).drop ((linesOf ls).length + a.length + 1) = b := by
    rw [show (linesOf ls).length + a.length + 1 = (linesOf ls ++ (a ++ [10])).length from by simp; omega, show linesOf ls ++ (a ++ 10 :: b) = (linesOf ls ++ (a ++ [10])) ++ b from by simp, List.drop_left]
  rw [h2]
  by_cases hk : headOk a = true
  · rw [if_pos ⟨h1, hk⟩, if_pos hk]
  · rw [if_neg (fun h => hk h.2), if_neg hk]
/-- a head's line -/
def headLine (x y : Nat) (r : Bool) : List UInt8 := xEq ++ (dec x ++ (yEq ++ (dec y ++ if r then ruleS else [])))
theorem headLine_ok (x y : Nat) (r : Bool) (hx : (x : Int) ≤ maxCount) (hy : (y : Int) ≤ maxCount) : headOk (headLine x y r) = true := by
  unfold headLine
  rw [head_of _ _ hx]
  cases r with
  | true => exact tailOk_rule y hy
  | false => rw [if_neg (by simp), List.append_nil]; exact tailOk_dec y hy
theorem headLine_z (x y : Nat) (r : Bool) (hx : (x : Int) ≤ maxCount) : headOk (headLine x y r ++ [122]) = false := by
  have he : headLine x y r ++ [122] = xEq ++ (dec x ++ (yEq ++ (dec y ++ ((if r then ruleS else []) ++ [122])))) := by unfold headLine; simp
  rw [he, head_of _ _ hx]
  have hd := dec_digits y
  cases r with
  | true =>
    unfold tailOk
    have := cutAt_first ruleS.tail 44 [122] (dec y) (digit_ne hd 44 (by decide))
    rw [show cutAt ruleS (dec y ++ ((if true = true then ruleS else []) ++ [122])) = some (dec y, [122]) from this]
    simp
  | false =>
    rw [if_neg (by simp), List.nil_append]
    unfold tailOk
    have hne : ∀ x ∈ dec y ++ [122], x ≠ 44 := by
      intro c hc
      rcases List.mem_append.1 hc with h | h
      · exact digit_ne hd 44 (by decide) c h
      · rw [List.mem_singleton.1 h]; decide
    rw [show cutAt ruleS (dec y ++ [122]) = none from cutAt_none ruleS.tail 44 _ hne]
    cases hn : numOk (dec y ++ [122]) with
    | false => rfl
    | true =>
      have := List.all_eq_true.1 (numOk_digits hn) 122 (by simp)
      cases this
theorem dec_line (n : Nat) : (dec n).all isLine = true := lines_of fun x hx => digit_ne (dec_digits n) 10 (by decide) x hx
theorem headLine_line (x y : Nat) (r : Bool) : (headLine x y r).all isLine = true ∧ (headLine x y r ++ [122]).all isLine = true ∧ (headLine x y r).head? = some 120 ∧ (headLine x y r ++ [122]).head? = some 120 := by
  have h1 : (headLine x y r).all isLine = true := by
    unfold headLine
    rw [List.all_append, List.all_append, List.all_append, List.all_append, dec_line, dec_line]
    cases r <;> decide
  refine ⟨h1, ?_, rfl, rfl⟩
  rw [List.all_append, h1]; decide
theorem headLine_len (x y : Nat) (r : Bool) (hx : x < 10 ^ 18) (hy : y < 10 ^ 18) : (headLine x y r).length ≤ 61 := by
  have h1 := dec_len x 17 hx
  have h2 := dec_len y 17 hy
  unfold headLine
  cases r <;> simp [xEq, yEq, ruleS] <;> omega

theorem small_box2 {l : List (Int × Int)} (hr : rightB l = true) (hm : ∀ x ∈ l, -8 ≤ x.1 ∧ x.1 ≤ 7 ∧ -8 ≤ x.2 ∧ x.2 ≤ 7) : boxW l ≤ maxCoord ∧ boxH l ≤ maxCoord + 1 := by
  by_cases hne : l = []
  · subst hne; exact ⟨by decide, by decide⟩
  · have := box_bounds hr (-8) 7 (-8) 7 hm hne
    unfold maxCoord; omega
theorem set_right2 (raw : List (Int × Int)) : rightB (setP raw) = true :=
  right_of (fun x hx => by have := set_mem raw x hx; exact inB_of (by omega) (by omega) (by omega) (by omega)) (set_srt raw) (by have := setP_len raw; omega)
/-- WHAT THE HEAD SAYS, AND LINES AHEAD, MAKE NO DIFFERENCE. -/
theorem head_facts (raw : List (Int × Int)) : ∃ (h B : List UInt8) (o : List (Int × Int)),
    printOf (setP raw) = (h ++ 10 :: B, 0) ∧ h.all isLine = true ∧ o.length ≤ 60 ∧ (h ++ 10 :: B).length ≤ 3000 ∧ parseP (h ++ 10 :: B) = (o, 0, 0) ∧
    ∀ (ls : List (List UInt8)) (x y : Nat) (r : Bool), ls.length ≤ 3 → x < 1125899906842624 → y < 1125899906842624 →
      parseP (linesOf ls ++ (headLine x y r ++ 10 :: B)) = (o, 0, 0) ∧ parseP (linesOf ls ++ (headLine x y r ++ 122 :: 10 :: B)) = ([], 32, ((linesOf ls).length : Int)) := by
  have hr := set_right2 raw
  have hll := setP_len raw
  have hB := small_box2 hr (set_mem raw)
  generalize setP raw = l at *
  obtain ⟨q, hc, ho⟩ := pr_came hr hB.1 hB.2
  obtain ⟨s0, s1, s2, s3⟩ := box_small hr
  have hp : printOf l = (headText (boxW l) (boxH l) ++ 10 :: (text (itemsOf l) ++ [33, 10]), 0) := by unfold printOf; rw [if_pos hr]
  have hlen := print_len l
  rw [hp] at hlen
  dsimp only at hlen
  have hok := headOk_text (boxW l) (boxH l) s0 (by unfold maxCount; omega) s2 (by unfold maxCount; omega)
  have hln := head_line (boxW l) (boxH l)
  have h35 : (headText (boxW l) (boxH l)).head? ≠ some 35 := by rw [hln.2]; decide
  have hz : (text (itemsOf l) ++ 33 :: [10]).length ≤ 20000 := by simp only [List.length_append, List.length_cons, List.length_nil] at hlen ⊢; omega
  refine ⟨_, _, q.out, hp, hln.1, by rw [ho, List.length_map]; exact hll, by omega, ?_, ?_⟩
  · rw [parse_head _ _ h35 hln.1 (by omega), if_pos hok]
    exact body_text _ _ _ hc.each hc.all [10] hz
  · intro ls x y r hls hx hy
    obtain ⟨l1, l2, l3, l4⟩ := headLine_line x y r
    have k1 := linesOf_len ls
    have k2 := headLine_len x y r (by omega) (by omega)
    have hxm : (x : Int) ≤ maxCount := by unfold maxCount; omega
    have hym : (y : Int) ≤ maxCount := by unfold maxCount; omega
    constructor
    · rw [parse_lines ls _ _ l3 l1 (by simp only [List.length_append, List.length_cons, List.length_nil] at hlen ⊢; omega), if_pos (headLine_ok x y r hxm hym)]
      exact body_text _ _ _ hc.each hc.all [10] hz
    · rw [show headLine x y r ++ 122 :: 10 :: (text (itemsOf l) ++ [33, 10]) = (headLine x y r ++ [122]) ++ 10 :: (text (itemsOf l) ++ [33, 10]) from by simp]
      rw [parse_lines ls _ _ l4 l2 (by simp only [List.length_append, List.length_cons, List.length_nil] at hlen ⊢; omega), if_neg (by rw [headLine_z x y r hxm]; simp)]
end Go.Proofs.YtnpndkmcgpaibaaDoor
