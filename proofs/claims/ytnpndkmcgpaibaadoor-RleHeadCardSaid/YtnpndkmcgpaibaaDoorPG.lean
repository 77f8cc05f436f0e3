/- Plain: a pattern's text, cut. No walk in this text. -/
import Derived.Test.YtnpndkmcgpaibaaDoorPF
set_option linter.unusedVariables false
namespace Go.Proofs.YtnpndkmcgpaibaaDoor
open Go.RowKit

theorem lex_none (f : Nat) (at_ : Int) (acc : List It) : lexLoop (f + 1) [] at_ acc = ([], 31, at_) := by
  rw [lexLoop]; simp [runLen]
theorem lex_digits (f : Nat) (d : List UInt8) (at_ : Int) (acc : List It) (hd : d.all isDigit = true) (h0 : d ≠ []) : lexLoop (f + 1) d at_ acc = ([], 30, at_) := by
  cases d with
  | nil => exact absurd rfl h0
  | cons c q =>
    have hc : isDigit c = true := by simp only [List.all_cons, Bool.and_eq_true] at hd; exact hd.1
    obtain ⟨hb, h33⟩ := digit_not hc
    have hk : runLen isBlank (c :: q) = 0 := runLen_cons_false _ hb
    have hkd : runLen isDigit (c :: q) = (c :: q).length := runLen_all_nil _ hd
    rw [lexLoop, hk, List.drop_zero]
    simp only
    rw [if_neg h33]
    have hit : item (c :: q) = .inl 30 := by unfold item; simp only [hkd, List.drop_length]
    rw [hit]
    simp
theorem short_loop : ∀ (l : List It) (f : Nat) (at_ : Int) (acc : List It) (j : Nat), (∀ x ∈ l, valid x) → j ≤ (text l).length → j < f →
    lexLoop f ((text l).take j) at_ acc = ([], 31, at_ + j) ∨ ∃ p : Nat, lexLoop f ((text l).take j) at_ acc = ([], 30, at_ + p) ∧ p < j ∧ ∃ c, (text l)[j - 1]? = some c ∧ isDigit c = true
  | [], f, at_, acc, j, _, hj, hf => by
    obtain ⟨f, rfl⟩ : ∃ g, f = g + 1 := ⟨f - 1, by omega⟩
    have : j = 0 := by simpa [text] using hj
    subst this
    left
    rw [List.take_zero, lex_none]; simp
  | x :: r, f, at_, acc, j, hv, hj, hf => by
    obtain ⟨f, rfl⟩ : ∃ g, f = g + 1 := ⟨f - 1, by omega⟩
    have hx := hv x (List.mem_cons_self ..)
    have ht : text (x :: r) = itText x ++ text r := by simp [text]
    rw [ht] at hj ⊢
    by_cases hlt : j < (itText x).length
    · by_cases h0 : j = 0
      · subst h0
        left
        rw [List.take_zero, lex_none]; simp
      · right
        have h1 : 1 < x.n := by
          have : ¬ ¬ 1 < x.n := fun h => by
            have : (itText x).length = 1 := by rw [itText, if_pos (show isTag x.tag = true ∧ 1 ≤ x.n ∧ x.n ≤ maxCoord from hx), if_neg h]; rfl
            omega
          exact Classical.not_not.1 this
        have hit : itText x = dec x.n.toNat ++ [x.tag] := by rw [itText, if_pos (show isTag x.tag = true ∧ 1 ≤ x.n ∧ x.n ≤ maxCoord from hx), if_pos h1]
        rw [hit] at hlt ⊢
        rw [List.length_append] at hlt
        rw [List.length_singleton] at hlt
        have hjd : j ≤ (dec x.n.toNat).length := by omega
        have hdd := dec_digits x.n.toNat
        have htk : (dec x.n.toNat ++ [x.tag] ++ text r).take j = (dec x.n.toNat).take j := by
          rw [List.append_assoc, List.take_append_of_le_length hjd]
        rw [htk]
        refine ⟨0, ?_, by omega, (dec x.n.toNat)[j - 1]'(by omega), ?_, ?_⟩
        · rw [lex_digits]
          · simp
          · exact List.all_eq_true.2 fun c hc => List.all_eq_true.1 hdd c (List.mem_of_mem_take hc)
          · intro e
            have := congrArg List.length e
            rw [List.length_take, List.length_nil] at this
            omega
        · rw [List.append_assoc, List.getElem?_append_left (by omega), List.getElem?_eq_getElem (by omega)]
        · exact List.all_eq_true.1 hdd _ (List.getElem_mem _)
    · have hge : (itText x).length ≤ j := by omega
      obtain ⟨c0, q0, hc0, _⟩ := itText_cons hx
      have hpos : 1 ≤ (itText x).length := by rw [hc0]; simp
      have htk : (itText x ++ text r).take j = [] ++ itText x ++ (text r).take (j - (itText x).length) := by
        rw [List.take_append, List.take_of_length_le hge, List.nil_append]
      rw [htk, lex_item f [] x _ at_ acc rfl hx]
      have hjr : j - (itText x).length ≤ (text r).length := by rw [List.length_append] at hj; omega
      rcases short_loop r f (at_ + ([] : List UInt8).length + (itText x).length) (acc ++ [⟨x.tag, x.n, at_ + ([] : List UInt8).length⟩]) (j - (itText x).length) (fun y hy => hv y (List.mem_cons_of_mem _ hy)) hjr (by omega) with h | ⟨p, h, hp, c, hc, hcd⟩
      · left
        rw [h]
        simp only [List.length_nil]
        congr 2
        push_cast
        omega
      · right
        refine ⟨(itText x).length + p, ?_, by omega, c, ?_, hcd⟩
        · rw [h]
          simp only [List.length_nil]
          congr 2
          push_cast
          omega
        · rw [List.getElem?_append_right (by omega), show j - 1 - (itText x).length = j - (itText x).length - 1 from by omega]
          exact hc
theorem short_lex (l : List It) (j : Nat) (hv : ∀ x ∈ l, valid x) (hj : j ≤ (text l).length) (hl : (text l).length ≤ 20000) :
    lex ((text l).take j) = ([], 31, (j : Int)) ∨ ∃ p : Nat, lex ((text l).take j) = ([], 30, (p : Int)) ∧ p < j ∧ ∃ c, (text l)[j - 1]? = some c ∧ isDigit c = true := by
  have hlen : ((text l).take j).length = j := by rw [List.length_take]; omega
  unfold lex
  rw [if_neg (by omega), hlen]
  rcases short_loop l (j + 1) 0 [] j hv hj (by omega) with h | ⟨p, h, h2⟩
  · left; rw [h]; simp
  · right; exact ⟨p, by rw [h]; simp, h2⟩
/-- the form of what is printed -/
theorem print_form {l : List (Int × Int)} (hr : rightB l = true) (hW : boxW l ≤ maxCoord) (hH : boxH l ≤ maxCoord + 1) : ∃ (h T : List UInt8) (its : List It),
    printOf l = (h ++ 10 :: (T ++ [33, 10]), 0) ∧ h.all isLine = true ∧ h.head? ≠ some 35 ∧ headOk h = true ∧ T = text its ∧ (∀ x ∈ its, valid x) ∧
    ∃ q, penAll its pen0 = some q ∧ q.out = l.map (fun c => (c.1 - boxX l, c.2 - boxY l)) := by
  obtain ⟨q, hc, ho⟩ := pr_came hr hW hH
  obtain ⟨s0, s1, s2, s3⟩ := box_small hr
  refine ⟨headText (boxW l) (boxH l), text (itemsOf l), itemsOf l, by unfold printOf; rw [if_pos hr], (head_line _ _).1, by rw [(head_line _ _).2]; decide, headOk_text _ _ s0 (by unfold maxCount; omega) s2 (by unfold maxCount; omega), rfl, hc.each, q, hc.all, ho⟩
/-- A TEXT WITHOUT ITS END. -/
theorem parse_short (h T : List UInt8) (its : List It) (j : Nat) (hl : h.all isLine = true) (h35 : h.head? ≠ some 35) (hok : headOk h = true) (hT : T = text its) (hv : ∀ x ∈ its, valid x) (hj : j ≤ T.length)
    (hlen : (h ++ 10 :: T).length ≤ 20000) :
    parseP (h ++ 10 :: T.take j) = ([], 31, ((h.length + 1 + j : Nat) : Int)) ∨ ∃ p : Nat, parseP (h ++ 10 :: T.take j) = ([], 30, (p : Int)) ∧ p < h.length + 1 + j ∧ 1 ≤ j ∧ ∃ c, T[j - 1]? = some c ∧ isDigit c = true := by
  subst hT
  have hlen2 : (h ++ 10 :: (text its).take j).length ≤ 20000 := by
    simp only [List.length_append, List.length_cons, List.length_take] at hlen ⊢; omega
  rw [parse_head h _ h35 hl hlen2, if_pos hok]
  unfold bodyP
  rcases short_lex its j hv hj (by simp only [List.length_append, List.length_cons] at hlen; omega) with e | ⟨p, e, hp, c, hc⟩
  · left
    rw [e]
    simp
  · right
    rw [e]
    refine ⟨h.length + 1 + p, by simp, by omega, by omega, c, hc⟩
end Go.Proofs.YtnpndkmcgpaibaaDoor
