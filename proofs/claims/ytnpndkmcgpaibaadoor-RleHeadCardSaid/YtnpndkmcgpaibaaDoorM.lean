/- Plain laws on items' texts: what is told is read. No walk in this text. -/
import Derived.Test.YtnpndkmcgpaibaaDoorP
import Derived.Test.YtnpndkmcgpaibaaDoorG
set_option linter.unusedVariables false
namespace Go.Proofs.YtnpndkmcgpaibaaDoor
open Go.RowKit

theorem dec_eq (n : Nat) : dec n = if n < 10 then [UInt8.ofNat (48 + n)] else dec (n / 10) ++ [UInt8.ofNat (48 + n % 10)] := by
  rw [dec, Lib.decDigits]; split <;> rfl
theorem dg_digit {n : Nat} (h : n < 10) : isDigit (UInt8.ofNat (48 + n)) = true := by
  have : n = 0 ∨ n = 1 ∨ n = 2 ∨ n = 3 ∨ n = 4 ∨ n = 5 ∨ n = 6 ∨ n = 7 ∨ n = 8 ∨ n = 9 := by omega
  rcases this with rfl | rfl | rfl | rfl | rfl | rfl | rfl | rfl | rfl | rfl <;> decide
theorem dg_val {n : Nat} (h : n < 10) : ((UInt8.ofNat (48 + n)).toNat : Int) - 48 = n := by
  rw [UInt8.toNat_ofNat']; omega
theorem dec_digits (n : Nat) : (dec n).all isDigit = true := by
  induction n using Nat.strongRecOn with
  | ind n ih =>
    rw [dec_eq]
    split
    · rename_i h; rw [List.all_cons, dg_digit h]; rfl
    · rename_i h
      rw [List.all_append, ih (n / 10) (by omega)]
      rw [List.all_cons, dg_digit (show n % 10 < 10 by omega)]; rfl
theorem dec_ne_nil (n : Nat) : dec n ≠ [] := by
  rw [dec_eq]; split <;> simp
theorem dec_head {n : Nat} (h1 : 1 ≤ n) : (dec n).head? ≠ some 48 := by
  induction n using Nat.strongRecOn with
  | ind n ih =>
    rw [dec_eq]
    split
    · rename_i h
      simp only [List.head?_cons, ne_eq, Option.some.injEq]
      intro e
      have := dg_val h
      rw [e] at this
      simp at this
      omega
    · rename_i h
      have := ih (n / 10) (by omega) (by omega)
      rw [List.head?_append]
      cases hd : (dec (n / 10)).head? with
      | none => exact absurd (List.head?_eq_none_iff.1 hd) (dec_ne_nil _)
      | some c => rw [hd] at this; simpa using this
theorem rp_append : ∀ (a b : List UInt8) (n v : Int), rpLoop a n = (v, 0) → rpLoop (a ++ b) n = rpLoop b v
  | [], b, n, v, h => by
    rw [rpLoop] at h
    obtain ⟨rfl, -⟩ := Prod.mk.inj h
    rfl
  | c :: a, b, n, v, h => by
    rw [rpLoop] at h
    rw [List.cons_append, rpLoop]
    split at h
    · simp at h
    · rename_i hn; rw [if_neg hn]; exact rp_append a b _ v h
theorem rp_dec (n : Nat) (h : (n : Int) ≤ maxCount) : rpLoop (dec n) 0 = ((n : Int), 0) := by
  induction n using Nat.strongRecOn with
  | ind n ih =>
    rw [dec_eq]
    split
    · rename_i hn
      have hv := dg_val hn
      rw [rpLoop, rpLoop, hv, if_neg (by unfold maxCount at *; omega)]
      simp
    · rename_i hn
      have h2 := ih (n / 10) (by omega) (by omega)
      have hv := dg_val (show n % 10 < 10 by omega)
      rw [rp_append _ _ _ _ h2, rpLoop, rpLoop, hv, if_neg (by unfold maxCount at *; omega)]
      congr 1
      omega
theorem cparse_dec (n : Nat) (h1 : 1 ≤ n) (h : (n : Int) ≤ maxCount) : cparse (dec n) = ((n : Int), 0) := by
  rw [cparse_eq, rparse, dec_digits, if_neg (by simp), if_neg, if_neg, rp_dec n h]
  · have := dec_len n 18 (by unfold maxCount at h; omega)
    omega
  · rintro (h0 | ⟨_, h0⟩)
    · exact dec_ne_nil n h0
    · exact dec_head h1 h0

theorem runLen_all {p : UInt8 → Bool} (a : List UInt8) (c : UInt8) (r : List UInt8) (ha : a.all p = true) (hc : p c = false) : runLen p (a ++ c :: r) = a.length := by
  induction a with
  | nil => exact runLen_cons_false r hc
  | cons d a ih =>
    simp only [List.all_cons, Bool.and_eq_true] at ha
    rw [List.cons_append, runLen_cons_true _ ha.1, ih ha.2]
    rfl
theorem runLen_all_nil {p : UInt8 → Bool} (a : List UInt8) (ha : a.all p = true) : runLen p a = a.length := by
  induction a with
  | nil => rfl
  | cons d a ih =>
    simp only [List.all_cons, Bool.and_eq_true] at ha
    rw [runLen_cons_true _ ha.1, ih ha.2]
    rfl

def valid (x : It) : Prop := isTag x.tag = true ∧ 1 ≤ x.n ∧ x.n ≤ maxCoord
theorem tag_not {c : UInt8} (h : isTag c = true) : isDigit c = false ∧ isBlank c = false ∧ c ≠ 33 := by
  revert h; revert c
  apply all_u8; decide +kernel
theorem digit_not {c : UInt8} (h : isDigit c = true) : isBlank c = false ∧ c ≠ 33 := by
  revert h; revert c
  apply all_u8; decide +kernel
theorem itText_cons {x : It} (h : valid x) : ∃ c r, itText x = c :: r ∧ isBlank c = false ∧ c ≠ 33 := by
  rw [itText, if_pos (show isTag x.tag = true ∧ 1 ≤ x.n ∧ x.n ≤ maxCoord from h)]
  split
  · cases hd : dec x.n.toNat with
    | nil => exact absurd hd (dec_ne_nil _)
    | cons c r =>
      have := dec_digits x.n.toNat
      rw [hd] at this
      simp only [List.all_cons, Bool.and_eq_true] at this
      exact ⟨c, r ++ [x.tag], rfl, (digit_not this.1).1, (digit_not this.1).2⟩
  · exact ⟨x.tag, [], rfl, (tag_not h.1).2.1, (tag_not h.1).2.2⟩

theorem item_text {x : It} (h : valid x) (r : List UInt8) : item (itText x ++ r) = .inr (x.tag, x.n, (itText x).length) := by
  have ht := tag_not h.1
  rw [itText, if_pos (show isTag x.tag = true ∧ 1 ≤ x.n ∧ x.n ≤ maxCoord from h)]
  by_cases h1 : 1 < x.n
  · rw [if_pos h1]
    have hk : runLen isDigit (dec x.n.toNat ++ [x.tag] ++ r) = (dec x.n.toNat).length := by
      rw [List.append_assoc]; exact runLen_all _ _ _ (dec_digits _) ht.1
    unfold item
    rw [hk]
    have hdrop : (dec x.n.toNat ++ [x.tag] ++ r).drop (dec x.n.toNat).length = x.tag :: r := by
      rw [List.append_assoc, List.drop_left]; rfl
    have htake : (dec x.n.toNat ++ [x.tag] ++ r).take (dec x.n.toNat).length = dec x.n.toNat := by
      rw [List.append_assoc, List.take_left]
    have hhead : (dec x.n.toNat ++ [x.tag] ++ r).head? = (dec x.n.toNat).head? := by
      rw [List.append_assoc, List.head?_append]
      cases hd : dec x.n.toNat with
      | nil => exact absurd hd (dec_ne_nil _)
      | cons c q => rfl
    have hlen : (dec x.n.toNat).length ≠ 0 := fun e => dec_ne_nil _ (List.eq_nil_of_length_eq_zero e)
    have hb := h.2.2
    have hcp := cparse_dec x.n.toNat (by omega) (by unfold maxCoord at hb; unfold maxCount; omega)
    simp only [hdrop, htake, hhead, hcp]
    rw [if_neg (by rw [h.1]; simp), if_neg hlen, if_neg (dec_head (by omega)), if_neg (by unfold maxCoord at *; omega)]
    rw [Int.toNat_of_nonneg (by omega), List.length_append]
    rfl
  · rw [if_neg h1]
    have hk : runLen isDigit ([] ++ [x.tag] ++ r) = 0 := runLen_cons_false r ht.1
    unfold item
    rw [hk]
    have hn : x.n = 1 := by have := h.2.1; omega
    simp only [List.nil_append, List.drop_zero, List.cons_append]
    rw [if_neg (by rw [h.1]; simp), if_pos trivial, hn]
    rfl

/-! ### items with blanks ahead -/
def btext (l : List (List UInt8 × It)) : List UInt8 := l.flatMap fun p => p.1 ++ itText p.2
def place : Int → List (List UInt8 × It) → List It
  | _, [] => []
  | at_, (b, x) :: r => ⟨x.tag, x.n, at_ + b.length⟩ :: place (at_ + b.length + (itText x).length) r
theorem lex_item (f : Nat) (b : List UInt8) (x : It) (r : List UInt8) (at_ : Int) (acc : List It) (hb : b.all isBlank = true) (h : valid x) :
    lexLoop (f + 1) (b ++ itText x ++ r) at_ acc = lexLoop f r (at_ + b.length + (itText x).length) (acc ++ [⟨x.tag, x.n, at_ + b.length⟩]) := by
  obtain ⟨c, q, hc, hcb, hc33⟩ := itText_cons h
  have hk : runLen isBlank (b ++ itText x ++ r) = b.length := by
    rw [hc, List.append_assoc]; exact runLen_all _ _ _ hb hcb
  have hdrop : (b ++ itText x ++ r).drop b.length = itText x ++ r := by rw [List.append_assoc, List.drop_left]
  rw [lexLoop, hk, hdrop]
  have hi := item_text h r
  simp only [hc, List.cons_append] at hi ⊢
  rw [if_neg hc33, hi]
  simp only
  rw [show List.drop (c :: q).length (c :: (q ++ r)) = r from by rw [← List.cons_append, List.drop_left]]
theorem lex_end (f : Nat) (b : List UInt8) (r : List UInt8) (at_ : Int) (acc : List It) (hb : b.all isBlank = true) :
    lexLoop (f + 1) (b ++ 33 :: r) at_ acc = (acc, 0, at_ + b.length) := by
  have hk : runLen isBlank (b ++ 33 :: r) = b.length := runLen_all _ _ _ hb (by decide)
  rw [lexLoop, hk, List.drop_left]
  simp
theorem lex_bad (f : Nat) (c : UInt8) (r : List UInt8) (at_ : Int) (acc : List It) (h1 : isBlank c = false) (h2 : isDigit c = false) (h3 : isTag c = false) (h4 : c ≠ 33) :
    lexLoop (f + 1) (c :: r) at_ acc = ([], 30, at_) := by
  have hk : runLen isBlank (c :: r) = 0 := runLen_cons_false _ h1
  have hk2 : runLen isDigit (c :: r) = 0 := runLen_cons_false _ h2
  rw [lexLoop, hk, List.drop_zero]
  simp only
  rw [if_neg h4]
  unfold item
  rw [hk2]
  simp [h3]
theorem lex_out (f : Nat) (b : List UInt8) (at_ : Int) (acc : List It) (hb : b.all isBlank = true) : lexLoop f b at_ acc = ([], 31, at_ + b.length) ∨ f = 0 := by
  cases f with
  | zero => exact .inr rfl
  | succ f =>
    left
    rw [lexLoop, runLen_all_nil _ hb, List.drop_length]

def bvalid (l : List (List UInt8 × It)) : Prop := ∀ p ∈ l, p.1.all isBlank = true ∧ valid p.2
theorem lex_btext : ∀ (l : List (List UInt8 × It)) (f : Nat) (r : List UInt8) (at_ : Int) (acc : List It), bvalid l →
    lexLoop (f + l.length) (btext l ++ r) at_ acc = lexLoop f r (at_ + (btext l).length) (acc ++ place at_ l)
  | [], f, r, at_, acc, _ => by simp [btext, place]
  | (b, x) :: l, f, r, at_, acc, h => by
    have h0 := h (b, x) (List.mem_cons_self ..)
    have e : btext ((b, x) :: l) ++ r = b ++ itText x ++ (btext l ++ r) := by simp [btext]
    rw [e, List.length_cons, ← Nat.add_assoc, lex_item _ _ _ _ _ _ h0.1 h0.2, lex_btext l f r _ _ (fun p hp => h p (List.mem_cons_of_mem _ hp))]
    have e2 : (btext ((b, x) :: l)).length = b.length + (itText x).length + (btext l).length := by simp [btext, Nat.add_assoc]
    rw [e2, place, List.append_assoc]
    congr 1
    push_cast
    omega
theorem btext_len_le (l : List (List UInt8 × It)) (h : bvalid l) : l.length ≤ (btext l).length := by
  induction l with
  | nil => simp
  | cons p l ih =>
    have h0 := h p (List.mem_cons_self ..)
    obtain ⟨c, q, hc, _⟩ := itText_cons h0.2
    have := ih (fun p hp => h p (List.mem_cons_of_mem _ hp))
    simp only [btext, List.flatMap_cons, List.length_append, List.length_cons, hc] at this ⊢
    omega
/-- WHAT IS TOLD IS READ. -/
theorem lex_told (l : List (List UInt8 × It)) (r : List UInt8) (h : bvalid l) (hl : (btext l ++ 33 :: r).length ≤ 20000) : lex (btext l ++ 33 :: r) = (place 0 l, 0, ((btext l).length : Int)) := by
  have hle := btext_len_le l h
  unfold lex
  rw [if_neg (by omega)]
  obtain ⟨f, hf⟩ : ∃ f, (btext l ++ 33 :: r).length + 1 = f + 1 + l.length := ⟨(btext l ++ 33 :: r).length - l.length, by simp only [List.length_append, List.length_cons] at *; omega⟩
  rw [hf, lex_btext l _ _ _ _ h]
  have := lex_end f [] r (0 + (btext l).length) ([] ++ place 0 l) rfl
  simp only [List.nil_append] at this
  rw [List.nil_append, this]
  simp
theorem lex_told_out (l : List (List UInt8 × It)) (h : bvalid l) (hl : (btext l).length ≤ 20000) : lex (btext l) = ([], 31, ((btext l).length : Int)) := by
  have hle := btext_len_le l h
  unfold lex
  rw [if_neg (by omega)]
  obtain ⟨f, hf⟩ : ∃ f, (btext l).length + 1 = f + 1 + l.length := ⟨(btext l).length - l.length, by omega⟩
  have := lex_btext l (f + 1) [] 0 [] h
  rw [List.append_nil] at this
  rw [hf, this]
  rcases lex_out (f + 1) [] (0 + (btext l).length) ([] ++ place 0 l) rfl with h2 | h2
  · rw [h2]; simp
  · omega
theorem lex_told_bad (l : List (List UInt8 × It)) (c : UInt8) (r : List UInt8) (h : bvalid l) (h1 : isBlank c = false) (h2 : isDigit c = false) (h3 : isTag c = false) (h4 : c ≠ 33)
    (hl : (btext l ++ c :: r).length ≤ 20000) : lex (btext l ++ c :: r) = ([], 30, ((btext l).length : Int)) := by
  have hle := btext_len_le l h
  unfold lex
  rw [if_neg (by omega)]
  obtain ⟨f, hf⟩ : ∃ f, (btext l ++ c :: r).length + 1 = f + 1 + l.length := ⟨(btext l ++ c :: r).length - l.length, by simp only [List.length_append, List.length_cons] at *; omega⟩
  rw [hf, lex_btext l _ _ _ _ h, lex_bad _ _ _ _ _ h1 h2 h3 h4]
  simp

/-! ### without blanks -/
def bare (l : List It) : List (List UInt8 × It) := l.map fun x => ([], x)
theorem btext_bare (l : List It) : btext (bare l) = text l := by
  simp [btext, bare, text, List.flatMap_map]
theorem bvalid_bare {l : List It} (h : ∀ x ∈ l, valid x) : bvalid (bare l) := by
  intro p hp
  obtain ⟨x, hx, rfl⟩ := List.mem_map.1 hp
  exact ⟨rfl, h x hx⟩
theorem place_length (at_ : Int) (l : List (List UInt8 × It)) : (place at_ l).length = l.length := by
  induction l generalizing at_ with
  | nil => rfl
  | cons p l ih => simp [place, ih]
theorem place_append (at_ : Int) (a b : List (List UInt8 × It)) : place at_ (a ++ b) = place at_ a ++ place (at_ + (btext a).length) b := by
  induction a generalizing at_ with
  | nil => simp [place, btext]
  | cons p a ih =>
    obtain ⟨c, x⟩ := p
    simp only [List.cons_append, place, ih]
    congr 2
    simp only [btext, List.flatMap_cons, List.length_append]
    push_cast
    congr 1
    omega
theorem place_shift (at_ d : Int) (l : List (List UInt8 × It)) : place (at_ + d) l = (place at_ l).map fun x => ⟨x.tag, x.n, x.at_ + d⟩ := by
  induction l generalizing at_ with
  | nil => rfl
  | cons p l ih =>
    obtain ⟨c, x⟩ := p
    simp only [place, List.map_cons]
    rw [← ih]
    congr 2
    · omega
    · omega
end Go.Proofs.YtnpndkmcgpaibaaDoor
