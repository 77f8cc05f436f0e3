/- Plain: a head's line, as the program reads it and as the reference does; where a head begins. -/
import Derived.Test.YtnpndkmcgpaibaaDoorPB
import Derived.Lib.IndexMore
import Derived.Lib.Strings
set_option linter.unusedVariables false
namespace Go.Proofs.YtnpndkmcgpaibaaDoor
open Go.RowKit

theorem isPrefixOf_nil_false {p : List UInt8} (h : p ≠ []) : p.isPrefixOf [] = false := by
  cases p with
  | nil => exact absurd rfl h
  | cons a r => rfl
theorem cutAt_at (part : List UInt8) (hp : part ≠ []) : ∀ (k : Nat) (s : List UInt8), part.isPrefixOf (s.drop k) = true → (∀ j, j < k → part.isPrefixOf (s.drop j) = false) →
    cutAt part s = some (s.take k, s.drop (k + part.length))
  | 0, [], h, _ => by rw [List.drop_nil, isPrefixOf_nil_false hp] at h; cases h
  | 0, c :: r, h, _ => by
    rw [List.drop_zero] at h
    rw [cutAt, if_pos h, List.take_zero, Nat.zero_add]
  | k + 1, [], h, _ => by rw [List.drop_nil, isPrefixOf_nil_false hp] at h; cases h
  | k + 1, c :: r, h, hn => by
    have h0 := hn 0 (by omega)
    rw [List.drop_zero] at h0
    rw [cutAt, h0, cutAt_at part hp k r (by simpa using h) (fun j hj => by simpa using hn (j + 1) (by omega))]
    simp [Nat.succ_add]
theorem cutAt_no (part : List UInt8) (hp : part ≠ []) : ∀ (s : List UInt8), (∀ j, part.isPrefixOf (s.drop j) = false) → cutAt part s = none
  | [], _ => by rw [cutAt, if_neg hp]
  | c :: r, hn => by
    have h0 := hn 0
    rw [List.drop_zero] at h0
    rw [cutAt, h0, cutAt_no part hp r (fun j => by simpa using hn (j + 1))]
    rfl
theorem cutAt_some (part : List UInt8) (hp : part ≠ []) : ∀ (s a b : List UInt8), cutAt part s = some (a, b) → s = a ++ (part ++ b)
  | [], a, b, h => by rw [cutAt, if_neg hp] at h; cases h
  | c :: r, a, b, h => by
    rw [cutAt] at h
    split at h
    · rename_i hpre
      simp only [Option.some.injEq, Prod.mk.injEq] at h
      obtain ⟨rfl, rfl⟩ := h
      obtain ⟨t, ht⟩ := List.isPrefixOf_iff_prefix.1 hpre
      rw [← ht, List.drop_left]; rfl
    · cases hc : cutAt part r with
      | none => rw [hc] at h; cases h
      | some p =>
        rw [hc] at h
        simp only [Option.map_some, Option.some.injEq, Prod.mk.injEq] at h
        obtain ⟨rfl, rfl⟩ := h
        have := cutAt_some part hp r p.1 p.2 hc
        rw [List.cons_append, ← this]
theorem index_neg (s sub : List UInt8) : Lib.index s sub = -1 ∨ 0 ≤ Lib.index s sub := by
  have := Lib.index_ge s sub; omega
theorem cut_eq (part : List UInt8) (hp : part ≠ []) (s : List UInt8) : Lib.cut s part = match cutAt part s with | some p => (p.1, p.2, true) | none => (s, [], false) := by
  induction s with
  | nil =>
    have : part.isEmpty = false := by cases part with
      | nil => exact absurd rfl hp
      | cons a r => rfl
    rw [cutAt, if_neg hp]
    unfold Lib.cut Lib.index
    rw [this]; rfl
  | cons c r ih =>
    rw [cutAt]
    by_cases hpre : part.isPrefixOf (c :: r) = true
    · rw [if_pos hpre]
      unfold Lib.cut Lib.index
      rw [if_pos hpre]
      simp
    · rw [if_neg hpre]
      have hi : Lib.index (c :: r) part = if Lib.index r part == -1 then -1 else Lib.index r part + 1 := by
        rw [Lib.index, if_neg hpre]
      rcases index_neg r part with h1 | h1
      · have e1 : Lib.cut r part = (r, [], false) := by unfold Lib.cut; rw [if_neg (by omega)]
        rw [e1] at ih
        cases hc : cutAt part r with
        | none =>
          unfold Lib.cut; rw [hi, h1]; rfl
        | some p => rw [hc] at ih; simp at ih
      · have e1 : Lib.cut r part = (r.take (Lib.index r part).toNat, r.drop ((Lib.index r part).toNat + part.length), true) := by unfold Lib.cut; rw [if_pos h1]
        rw [e1] at ih
        cases hc : cutAt part r with
        | none => rw [hc] at ih; simp at ih
        | some p =>
          rw [hc] at ih
          simp only [Prod.mk.injEq, and_true] at ih
          have h2 : (Lib.index r part == -1) = false := by simp; omega
          unfold Lib.cut
          rw [hi, h2]
          simp only [Bool.false_eq_true, if_false]
          rw [if_pos (by omega), show (Lib.index r part + 1).toNat = (Lib.index r part).toNat + 1 from by omega]
          simp only [Option.map_some, List.take_succ_cons, Nat.succ_add, List.drop_succ_cons]
          rw [ih.1, ih.2]

theorem numOk_digits {l : List UInt8} (h : numOk l = true) : l.all isDigit = true := by
  unfold numOk at h
  rw [cparse_eq] at h
  cases hd : l.all isDigit with
  | true => rfl
  | false =>
    unfold rparse at h
    rw [hd] at h
    simp at h
theorem numOk_comma {a b : List UInt8} : numOk (a ++ (ruleS ++ b)) = false := by
  cases h : numOk (a ++ (ruleS ++ b)) with
  | false => rfl
  | true =>
    have h1 := numOk_digits h
    have := List.all_eq_true.1 h1 44 (by simp [ruleS])
    cases this
/-- a head's line, as the program reads it -/
def headProg (l : List UInt8) : Bool :=
  Lib.hasPrefix (Lib.trimSuffix l ruleS) xEq && ((Lib.cut (Lib.trimPrefix (Lib.trimSuffix l ruleS) xEq) yEq).2.2 && (numOk (Lib.cut (Lib.trimPrefix (Lib.trimSuffix l ruleS) xEq) yEq).1 && numOk (Lib.cut (Lib.trimPrefix (Lib.trimSuffix l ruleS) xEq) yEq).2.1))
def midOk (f : List UInt8 → Bool) (m : List UInt8) : Bool := match cutAt yEq m with
  | some q => numOk q.1 && f q.2
  | none => false
theorem headOk_eq (l : List UInt8) : headOk l = (xEq.isPrefixOf l && midOk tailOk (l.drop 4)) := by
  unfold headOk
  cases l with
  | nil => rfl
  | cons c r =>
    rw [cutAt]
    by_cases hp : xEq.isPrefixOf (c :: r) = true
    · rw [if_pos hp, hp]; rfl
    · rw [if_neg hp]
      have : xEq.isPrefixOf (c :: r) = false := Bool.eq_false_iff.2 hp
      rw [this]
      cases cutAt xEq r with
      | none => rfl
      | some p => rfl
theorem headProg_eq (l : List UInt8) : headProg l = (xEq.isPrefixOf (Lib.trimSuffix l ruleS) && midOk numOk ((Lib.trimSuffix l ruleS).drop 4)) := by
  unfold headProg
  generalize Lib.trimSuffix l ruleS = m
  show (xEq.isPrefixOf m && _) = _
  cases hp : xEq.isPrefixOf m with
  | false => rfl
  | true =>
    have ht : Lib.trimPrefix m xEq = m.drop 4 := by unfold Lib.trimPrefix; rw [if_pos (show Lib.hasPrefix m xEq = true from hp)]; rfl
    rw [ht, cut_eq yEq (by decide)]
    unfold midOk
    cases cutAt yEq (m.drop 4) with
    | none => rfl
    | some q => rfl
theorem yEq_rule (m : List UInt8) : yEq.isPrefixOf (m ++ ruleS) = yEq.isPrefixOf m := by
  rcases m with _ | ⟨a, _ | ⟨b, _ | ⟨c, _ | ⟨d, _ | ⟨e, _ | ⟨f, m⟩⟩⟩⟩⟩⟩ <;> simp [yEq, ruleS, List.isPrefixOf]
theorem xEq_rule (m : List UInt8) : xEq.isPrefixOf (m ++ ruleS) = xEq.isPrefixOf m := by
  rcases m with _ | ⟨a, _ | ⟨b, _ | ⟨c, _ | ⟨d, m⟩⟩⟩⟩ <;> simp [xEq, ruleS, List.isPrefixOf]
theorem cut_rule (m : List UInt8) : cutAt yEq (m ++ ruleS) = (cutAt yEq m).map fun p => (p.1, p.2 ++ ruleS) := by
  induction m with
  | nil => decide
  | cons c r ih =>
    have hp := yEq_rule (c :: r)
    rw [List.cons_append] at hp ⊢
    rw [cutAt, cutAt, hp]
    by_cases h : yEq.isPrefixOf (c :: r) = true
    · rw [if_pos h, if_pos h]
      obtain ⟨t, ht⟩ := List.isPrefixOf_iff_prefix.1 h
      simp only [Option.map_some]
      rw [← List.cons_append, ← ht, List.append_assoc, List.drop_left, List.drop_left]
    · rw [if_neg h, if_neg h, ih]
      cases cutAt yEq r with
      | none => rfl
      | some p => rfl
theorem tail_rule (h : List UInt8) : tailOk (h ++ ruleS) = numOk h := by
  cases hn : numOk h with
  | true =>
    have hd := numOk_digits hn
    unfold tailOk
    have := cutAt_first ruleS.tail 44 [] h (digit_ne hd 44 (by decide))
    rw [List.append_nil] at this
    rw [show cutAt ruleS (h ++ ruleS) = some (h, []) from this]
    simp [hn]
  | false =>
    unfold tailOk
    cases hc : cutAt ruleS (h ++ ruleS) with
    | none =>
      have := numOk_comma (a := h) (b := [])
      rw [List.append_nil] at this
      exact this
    | some p =>
      have hs := cutAt_some ruleS (by decide) _ p.1 p.2 hc
      cases hp : p.2 with
      | nil =>
        rw [hp, List.append_nil] at hs
        have := List.append_cancel_right hs
        simp [← this, hn]
      | cons a r => simp [hp]
theorem tail_no {h : List UInt8} (hs : Lib.hasSuffix h ruleS = false) : tailOk h = numOk h := by
  unfold tailOk
  cases hc : cutAt ruleS h with
  | none => rfl
  | some p =>
    have he := cutAt_some ruleS (by decide) _ p.1 p.2 hc
    have hn : numOk h = false := by rw [he]; exact numOk_comma
    dsimp only
    rw [hn]
    cases hp : p.2 with
    | nil =>
      exfalso
      rw [hp, List.append_nil] at he
      have : Lib.hasSuffix h ruleS = true := by
        unfold Lib.hasSuffix
        rw [List.isSuffixOf_iff_suffix]
        exact ⟨p.1, he.symm⟩
      rw [hs] at this; cases this
    | cons a r => simp
/-- THE TWO ARE THE SAME. -/
theorem head_same (l : List UInt8) : headProg l = headOk l := by
  rw [headProg_eq, headOk_eq]
  cases hs : Lib.hasSuffix l ruleS with
  | true =>
    obtain ⟨t, ht⟩ := (List.isSuffixOf_iff_suffix).1 (show ruleS.isSuffixOf l = true from hs)
    have htr : Lib.trimSuffix l ruleS = t := by
      unfold Lib.trimSuffix
      rw [hs, ← ht]
      simp
    rw [htr, ← ht, xEq_rule]
    cases hp : xEq.isPrefixOf t with
    | false => rfl
    | true =>
      obtain ⟨m, hm⟩ := List.isPrefixOf_iff_prefix.1 hp
      have h1 : t.drop 4 = m := by rw [← hm]; rfl
      have h2 : (t ++ ruleS).drop 4 = m ++ ruleS := by rw [← hm, List.append_assoc]; rfl
      rw [h1, h2]
      unfold midOk
      rw [cut_rule]
      cases cutAt yEq m with
      | none => rfl
      | some p =>
        simp only [Option.map_some]
        rw [tail_rule]
  | false =>
    have htr : Lib.trimSuffix l ruleS = l := by unfold Lib.trimSuffix; rw [hs]; rfl
    rw [htr]
    cases hp : xEq.isPrefixOf l with
    | false => rfl
    | true =>
      obtain ⟨m, hm⟩ := List.isPrefixOf_iff_prefix.1 hp
      have h1 : l.drop 4 = m := by rw [← hm]; rfl
      rw [h1]
      unfold midOk
      cases hc : cutAt yEq m with
      | none => rfl
      | some p =>
        have he := cutAt_some yEq (by decide) m p.1 p.2 hc
        dsimp only
        rw [tail_no]
        cases hsp : Lib.hasSuffix p.2 ruleS with
        | false => rfl
        | true =>
          exfalso
          obtain ⟨t, ht⟩ := (List.isSuffixOf_iff_suffix).1 (show ruleS.isSuffixOf p.2 = true from hsp)
          have : Lib.hasSuffix l ruleS = true := by
            unfold Lib.hasSuffix
            rw [List.isSuffixOf_iff_suffix]
            exact ⟨xEq ++ (p.1 ++ (yEq ++ t)), by rw [← hm, he, ← ht]; simp⟩
          rw [hs] at this; cases this

/-! ### where a head begins -/
theorem headAt_fuel : ∀ (f g : Nat) (l : List UInt8), l.length < f → l.length < g → headAt f l = headAt g l
  | 0, _, l, h, _ => by omega
  | _, 0, l, _, h => by omega
  | f + 1, g + 1, l, hf, hg => by
    rw [headAt, headAt]
    split
    · rw [headAt_fuel f g _ (by simp; omega) (by simp; omega)]
    · rfl
def hAt (l : List UInt8) : Nat := headAt (l.length + 1) l
theorem hAt_step {l : List UInt8} (h : l.head? = some 35) (h2 : lineLen l < l.length) : hAt l = lineLen l + 1 + hAt (l.drop (lineLen l + 1)) := by
  unfold hAt
  rw [headAt, if_pos ⟨h, h2⟩]
  congr 1
  exact headAt_fuel _ _ _ (by simp; omega) (by omega)
theorem hAt_stop {l : List UInt8} (h : ¬ (l.head? = some 35 ∧ lineLen l < l.length)) : hAt l = 0 := by
  unfold hAt; rw [headAt, if_neg h]
theorem lineLen_le (l : List UInt8) : lineLen l ≤ l.length := runLen_le _ _
theorem hAt_le (l : List UInt8) : hAt l ≤ l.length := by
  suffices h : ∀ (n : Nat) (l : List UInt8), l.length ≤ n → hAt l ≤ l.length from h _ l (Nat.le_refl _)
  intro n
  induction n with
  | zero =>
    intro l hl
    have : l = [] := List.eq_nil_of_length_eq_zero (by omega)
    subst this
    rw [hAt_stop (by simp)]; exact Nat.zero_le _
  | succ n ih =>
    intro l hl
    by_cases h : l.head? = some 35 ∧ lineLen l < l.length
    · rw [hAt_step h.1 h.2]
      have := ih (l.drop (lineLen l + 1)) (by simp; omega)
      simp at this
      omega
    · rw [hAt_stop h]; exact Nat.zero_le _
theorem lineLen_cut (l : List UInt8) : cutAt [10] l = if lineLen l < l.length then some (l.take (lineLen l), l.drop (lineLen l + 1)) else none := by
  induction l with
  | nil => rfl
  | cons c r ih =>
    rw [cutAt]
    by_cases hc : c = 10
    · subst hc
      have : lineLen (10 :: r) = 0 := runLen_cons_false r (by decide)
      rw [this]
      simp [List.isPrefixOf]
    · have h1 : [10].isPrefixOf (c :: r) = false := by simp [List.isPrefixOf]; exact fun e => hc e.symm
      have h2 : lineLen (c :: r) = lineLen r + 1 := runLen_cons_true r (by unfold isLine; simpa using hc)
      rw [if_neg (by rw [h1]; simp), ih, h2]
      by_cases h3 : lineLen r < r.length
      · rw [if_pos h3, if_pos (by simp; omega)]; rfl
      · rw [if_neg h3, if_neg (by simp; omega)]; rfl
end Go.Proofs.YtnpndkmcgpaibaaDoor
