/- Plain laws on patterns: what is printed is parsed. No walk in this text. -/
import Derived.Test.YtnpndkmcgpaibaaDoorPA
set_option linter.unusedVariables false
namespace Go.Proofs.YtnpndkmcgpaibaaDoor
open Go.RowKit

theorem pr_step {bx by_ : Int} {s : Wr} {q : Pen} (h : Came s.items q) (hx : q.x = s.x - bx) (hy : q.y = s.y - by_) (c : Int × Int)
    (h1 : s.y < c.2 ∨ s.y = c.2 ∧ s.x ≤ c.1) (h2 : bx ≤ c.1) (h3 : c.1 - bx + 1 ≤ maxCoord) (h4 : c.2 - by_ ≤ maxCoord) (h5 : q.many + 1 ≤ 2000) :
    ∃ q', Came (prStep bx s c).items q' ∧ (prStep bx s c).x = c.1 + 1 ∧ (prStep bx s c).y = c.2 ∧ q'.x = c.1 + 1 - bx ∧ q'.y = c.2 - by_ ∧ q'.many = q.many + 1 ∧
      q'.out = q.out ++ [(c.1 - bx, c.2 - by_)] := by
  have hx0 := h.x0
  have hy0 := h.y0
  have hone : ∀ x y : Int, rowOf x y (1 : Int).toNat = [(x, y)] := fun x y => by simp [rowOf]
  unfold prStep
  by_cases hlt : s.y < c.2
  · rw [if_pos hlt]
    have c1 := came_put (t := 36) (n := c.2 - s.y) h (by decide) (by omega) (fun _ => by omega) (by
      have : penDo q 36 (c.2 - s.y) = ⟨0, q.y + (c.2 - s.y), q.many, q.out⟩ := by unfold penDo; rfl
      rw [this]; refine penErr_of ?_ ?_ ?_ <;> dsimp only <;> unfold maxCoord at * <;> omega)
    rw [show penDo q 36 (c.2 - s.y) = ⟨0, q.y + (c.2 - s.y), q.many, q.out⟩ from by unfold penDo; rfl] at c1
    have c2 := came_put (t := 98) (n := c.1 - bx) c1 (by decide) (by omega) (fun e => by cases e) (by
      unfold penDo; rw [if_pos rfl]; refine penErr_of ?_ ?_ ?_ <;> dsimp only <;> unfold maxCoord at * <;> omega)
    rw [show penDo ⟨0, q.y + (c.2 - s.y), q.many, q.out⟩ 98 (c.1 - bx) = ⟨0 + (c.1 - bx), q.y + (c.2 - s.y), q.many, q.out⟩ from by unfold penDo; rfl] at c2
    have c3 := came_put (t := 111) (n := 1) c2 (by decide) (by omega) (fun e => by cases e) (by
      unfold penDo; rw [if_neg (by decide), if_neg (by decide)]; refine penErr_of ?_ ?_ ?_ <;> dsimp only <;> unfold maxCoord at * <;> omega)
    refine ⟨_, c3, rfl, rfl, ?_⟩
    unfold penDo
    rw [if_neg (by decide), if_neg (by decide)]
    dsimp only
    rw [hone]
    refine ⟨by omega, by omega, rfl, ?_⟩
    congr 3 <;> omega
  · rw [if_neg hlt]
    have hyx : s.y = c.2 ∧ s.x ≤ c.1 := by omega
    have c2 := came_put (t := 98) (n := c.1 - s.x) h (by decide) (by omega) (fun e => by cases e) (by
      unfold penDo; rw [if_pos rfl]; refine penErr_of ?_ ?_ ?_ <;> dsimp only <;> unfold maxCoord at * <;> omega)
    rw [show penDo q 98 (c.1 - s.x) = ⟨q.x + (c.1 - s.x), q.y, q.many, q.out⟩ from by unfold penDo; rfl] at c2
    have c3 := came_put (t := 111) (n := 1) c2 (by decide) (by omega) (fun e => by cases e) (by
      unfold penDo; rw [if_neg (by decide), if_neg (by decide)]; refine penErr_of ?_ ?_ ?_ <;> dsimp only <;> unfold maxCoord at * <;> omega)
    refine ⟨_, c3, rfl, hyx.1, ?_⟩
    unfold penDo
    rw [if_neg (by decide), if_neg (by decide)]
    dsimp only
    rw [hone]
    refine ⟨by omega, by omega, rfl, ?_⟩
    congr 3 <;> omega

theorem mins_le (d : Int) (l : List Int) : mins d l ≤ d ∧ ∀ x ∈ l, mins d l ≤ x := by
  unfold mins
  induction l generalizing d with
  | nil => simp
  | cons a r ih =>
    rw [List.foldl_cons]
    obtain ⟨h0, h1⟩ := ih (min d a)
    refine ⟨by omega, fun x hx => ?_⟩
    rcases List.mem_cons.1 hx with rfl | hx
    · omega
    · exact h1 x hx
theorem maxs_le (d : Int) (l : List Int) : d ≤ maxs d l ∧ ∀ x ∈ l, x ≤ maxs d l := by
  unfold maxs
  induction l generalizing d with
  | nil => simp
  | cons a r ih =>
    rw [List.foldl_cons]
    obtain ⟨h0, h1⟩ := ih (max d a)
    refine ⟨by omega, fun x hx => ?_⟩
    rcases List.mem_cons.1 hx with rfl | hx
    · omega
    · exact h1 x hx
/-- the box of a set -/
theorem box_facts {l : List (Int × Int)} (hr : rightB l = true) (k : Nat) (hk : k < l.length) :
    boxX l ≤ (l[k]).1 ∧ (l[k]).1 - boxX l + 1 ≤ boxW l ∧ boxY l = (l[0]).2 ∧ (l[k]).2 - boxY l + 1 ≤ boxH l := by
  have hne : ¬ (l = [] ∨ rightB l = false) := by
    rintro (rfl | h)
    · simp at hk
    · rw [hr] at h; cases h
  unfold boxX boxY boxW boxH boxOf
  rw [if_neg hne]
  dsimp only
  have hm1 := (mins_le (l.getD 0 (0, 0)).1 ((l.map (·.1)).take l.length)).2 (l[k]).1 (by
    rw [List.take_of_length_le (by simp)]; exact List.mem_map.2 ⟨l[k], List.getElem_mem _, rfl⟩)
  have hm2 := (maxs_le (l.getD 0 (0, 0)).1 ((l.map (·.1)).take l.length)).2 (l[k]).1 (by
    rw [List.take_of_length_le (by simp)]; exact List.mem_map.2 ⟨l[k], List.getElem_mem _, rfl⟩)
  have hb := bots_right hr k hk
  have hbe := bots_right hr (l.length - 1) (by omega)
  have hup : ∀ j, ∀ hj : k + j < l.length, (l[k]).2 ≤ (l[k + j]).2 := by
    intro j
    induction j with
    | zero => intro _; exact Int.le_refl _
    | succ j ih => intro hj; exact Int.le_trans (ih (by omega)) (less_y (right_step hr (k + j) hj))
  have := hup (l.length - 1 - k) (by omega)
  have e : k + (l.length - 1 - k) = l.length - 1 := by omega
  simp only [e] at this
  rw [getD_at _ _ 0 (by omega), getD_at _ _ (l.length - 1) (by omega)]
  unfold lefts rights
  refine ⟨hm1, ?_, rfl, ?_⟩
  · omega
  · omega

theorem pr_came_k {l : List (Int × Int)} (hr : rightB l = true) (hW : boxW l ≤ maxCoord) (hH : boxH l ≤ maxCoord + 1) : ∀ k, k ≤ l.length →
    ∃ q, Came (prFold (boxX l) (boxY l) (l.take k)).items q ∧ q.x = (prFold (boxX l) (boxY l) (l.take k)).x - boxX l ∧ q.y = (prFold (boxX l) (boxY l) (l.take k)).y - boxY l ∧ q.many = k ∧
      q.out = (l.take k).map (fun c => (c.1 - boxX l, c.2 - boxY l)) ∧
      (k = 0 → (prFold (boxX l) (boxY l) (l.take k)).x = boxX l ∧ (prFold (boxX l) (boxY l) (l.take k)).y = boxY l) ∧
      (∀ j, k = j + 1 → ∀ h : j < l.length, (prFold (boxX l) (boxY l) (l.take k)).x = (l[j]).1 + 1 ∧ (prFold (boxX l) (boxY l) (l.take k)).y = (l[j]).2) := by
  intro k
  have h2000 : l.length ≤ 2000 := by
    unfold rightB at hr
    rw [Bool.and_eq_true] at hr
    simpa using hr.2
  induction k with
  | zero =>
    intro _
    refine ⟨pen0, ⟨rfl, fun x hx => by simp [prFold] at hx, Int.le_refl _, Int.le_refl _⟩, ?_, ?_, rfl, rfl, fun _ => ⟨rfl, rfl⟩, fun j hj => by omega⟩
    · simp [prFold, pen0]
    · simp [prFold, pen0]
  | succ k ih =>
    intro hk
    obtain ⟨q, hc, hx, hy, hm, ho, hz, hs⟩ := ih (by omega)
    obtain ⟨b1, b2, b3, b4⟩ := box_facts hr k (by omega)
    rw [prFold_succ _ _ _ _ (by omega)]
    have h1 : (prFold (boxX l) (boxY l) (l.take k)).y < (l[k]).2 ∨ (prFold (boxX l) (boxY l) (l.take k)).y = (l[k]).2 ∧ (prFold (boxX l) (boxY l) (l.take k)).x ≤ (l[k]).1 := by
      cases k with
      | zero =>
        obtain ⟨e1, e2⟩ := hz rfl
        right
        rw [e1, e2]
        exact ⟨b3, b1⟩
      | succ j =>
        obtain ⟨e1, e2⟩ := hs j rfl (by omega)
        have := right_step hr j (by omega)
        unfold lessB at this
        rw [decide_eq_true_eq] at this
        rw [e1, e2]
        omega
    obtain ⟨q', hc', hx', hy', hqx, hqy, hqm, hqo⟩ := pr_step hc hx hy l[k] h1 b1 (by omega) (by omega) (by omega)
    refine ⟨q', hc', by omega, by omega, by push_cast; omega, ?_, fun h => by omega, fun j hj h => ?_⟩
    · rw [hqo, ho, List.take_succ_eq_append_getElem (by omega), List.map_append]; rfl
    · obtain rfl : k = j := by omega
      exact ⟨hx', hy'⟩
/-- what a set's items draw -/
theorem pr_came {l : List (Int × Int)} (hr : rightB l = true) (hW : boxW l ≤ maxCoord) (hH : boxH l ≤ maxCoord + 1) :
    ∃ q, Came (itemsOf l) q ∧ q.out = l.map (fun c => (c.1 - boxX l, c.2 - boxY l)) := by
  obtain ⟨q, hc, _, _, _, ho, _⟩ := pr_came_k hr hW hH l.length (Nat.le_refl _)
  rw [List.take_length] at hc ho
  exact ⟨q, hc, ho⟩

/-! ### the head -/
theorem cutAt_first (p : List UInt8) (c : UInt8) (b : List UInt8) : ∀ a : List UInt8, (∀ x ∈ a, x ≠ c) → cutAt (c :: p) (a ++ (c :: p ++ b)) = some (a, b)
  | [], _ => by
    rw [List.nil_append, List.cons_append, cutAt, if_pos (by rw [← List.cons_append]; simp)]
    rw [← List.cons_append, List.drop_left]
  | d :: a, h => by
    have hd : (c :: p).isPrefixOf (d :: (a ++ (c :: p ++ b))) = false := by
      rw [List.isPrefixOf]
      have := h d (List.mem_cons_self ..)
      simp [this.symm]
    rw [List.cons_append, cutAt, hd, cutAt_first p c b a (fun x hx => h x (List.mem_cons_of_mem _ hx))]
    rfl
theorem cutAt_none (p : List UInt8) (c : UInt8) : ∀ a : List UInt8, (∀ x ∈ a, x ≠ c) → cutAt (c :: p) a = none
  | [], _ => by rw [cutAt, if_neg (by simp)]
  | d :: a, h => by
    have hd : (c :: p).isPrefixOf (d :: a) = false := by
      rw [List.isPrefixOf]
      have := h d (List.mem_cons_self ..)
      simp [this.symm]
    rw [cutAt, hd, cutAt_none p c a (fun x hx => h x (List.mem_cons_of_mem _ hx))]
    rfl
theorem digit_ne {a : List UInt8} (h : a.all isDigit = true) (c : UInt8) (hc : isDigit c = false) : ∀ x ∈ a, x ≠ c := by
  intro x hx e
  have := List.all_eq_true.1 h x hx
  rw [e, hc] at this
  cases this
theorem numOk_dec (n : Nat) (h : (n : Int) ≤ maxCount) : numOk (dec n) = true := by
  unfold numOk
  by_cases h0 : n = 0
  · subst h0; decide +kernel
  · rw [cparse_dec n (by omega) h]; rfl
theorem tailOk_dec (n : Nat) (h : (n : Int) ≤ maxCount) : tailOk (dec n) = true := by
  unfold tailOk
  rw [show ruleS = 44 :: ruleS.tail from rfl, cutAt_none _ _ _ (digit_ne (dec_digits n) 44 (by decide))]
  exact numOk_dec n h
theorem tailOk_rule (n : Nat) (h : (n : Int) ≤ maxCount) : tailOk (dec n ++ ruleS) = true := by
  unfold tailOk
  have := cutAt_first ruleS.tail 44 [] (dec n) (digit_ne (dec_digits n) 44 (by decide))
  rw [List.append_nil] at this
  rw [show ruleS = 44 :: ruleS.tail from rfl, this]
  simp [numOk_dec n h]
theorem head_of (w : Nat) (t : List UInt8) (hw : (w : Int) ≤ maxCount) : headOk (xEq ++ (dec w ++ (yEq ++ t))) = tailOk t := by
  have h1 : cutAt xEq (xEq ++ (dec w ++ (yEq ++ t))) = some ([], dec w ++ (yEq ++ t)) := cutAt_first xEq.tail 120 (dec w ++ (yEq ++ t)) [] (by simp)
  have h2 : cutAt yEq (dec w ++ (yEq ++ t)) = some (dec w, t) := cutAt_first yEq.tail 44 t (dec w) (digit_ne (dec_digits w) 44 (by decide))
  unfold headOk
  rw [h1]
  dsimp only
  rw [h2]
  dsimp only
  rw [numOk_dec w hw]
  rfl
theorem lines_of {a : List UInt8} (h : ∀ x ∈ a, x ≠ 10) : a.all isLine = true := List.all_eq_true.2 fun x hx => by
  unfold isLine; simpa using h x hx
/-- a text with a head's line, and no other ahead -/
theorem parse_head (a b : List UInt8) (h0 : a.head? ≠ some 35) (hl : a.all isLine = true) (hlen : (a ++ 10 :: b).length ≤ 20000) :
    parseP (a ++ 10 :: b) = if headOk a = true then bodyP (a.length + 1) b else ([], 32, 0) := by
  have hk : lineLen (a ++ 10 :: b) = a.length := runLen_all _ _ _ hl (by decide)
  have hh : headAt ((a ++ 10 :: b).length + 1) (a ++ 10 :: b) = 0 := by
    rw [headAt, if_neg]
    rintro ⟨h, _⟩
    cases a with
    | nil => simp at h
    | cons c r => exact h0 (by simpa using h)
  unfold parseP
  rw [if_neg (by omega), hh, List.drop_zero, hk, Nat.zero_add, List.take_left]
  have hd : (a ++ 10 :: b).drop (a.length + 1) = b := by
    rw [← List.drop_drop, List.drop_left]; rfl
  rw [hd]
  by_cases hok : headOk a = true
  · rw [if_pos ⟨by simp, hok⟩, if_pos hok]
  · rw [if_neg (fun h => hok h.2), if_neg hok]; rfl
theorem penRun_tell : ∀ (a b : List It) (p : Pen), a.map (fun x => (x.tag, x.n)) = b.map (fun x => (x.tag, x.n)) → penAll a p = penAll b p
  | [], [], p, _ => rfl
  | [], y :: b, p, h => by simp at h
  | x :: a, [], p, h => by simp at h
  | x :: a, y :: b, p, h => by
    simp only [List.map_cons, List.cons.injEq, Prod.mk.injEq] at h
    rw [penAll, penAll, h.1.1, h.1.2]
    split
    · exact penRun_tell a b _ h.2
    · rfl
theorem place_tell (at_ : Int) (l : List (List UInt8 × It)) : (place at_ l).map (fun x => (x.tag, x.n)) = l.map (fun p => (p.2.tag, p.2.n)) := by
  induction l generalizing at_ with
  | nil => rfl
  | cons p r ih => obtain ⟨b, x⟩ := p; rw [place, List.map_cons, ih]; rfl
theorem place_bare_tell (at_ : Int) (l : List It) : (place at_ (bare l)).map (fun x => (x.tag, x.n)) = l.map (fun x => (x.tag, x.n)) := by
  rw [place_tell]; simp [bare]
/-- items' text, parsed -/
theorem body_text (at_ : Nat) (l : List It) (q : Pen) (hv : ∀ x ∈ l, valid x) (h : penAll l pen0 = some q) (r : List UInt8) (hlen : (text l ++ 33 :: r).length ≤ 20000) :
    bodyP at_ (text l ++ 33 :: r) = (q.out, 0, 0) := by
  have := lex_told (bare l) r (bvalid_bare hv) (by rw [btext_bare]; exact hlen)
  rw [btext_bare] at this
  have hr := penRun_all (place 0 (bare l)) pen0 q ((penRun_tell _ _ _ (place_bare_tell 0 l)).trans h)
  unfold bodyP
  rw [this]
  dsimp only
  rw [if_pos rfl, hr]
  rfl
theorem head_line (w h : Int) : (headText w h).all isLine = true ∧ (headText w h).head? = some 120 := by
  have hd : ∀ n, ∀ x ∈ dec n, x ≠ 10 := fun n => digit_ne (dec_digits n) 10 (by decide)
  refine ⟨?_, rfl⟩
  unfold headText
  simp only [List.all_append, Bool.and_eq_true]
  exact ⟨⟨⟨⟨by decide, lines_of (hd _)⟩, by decide⟩, lines_of (hd _)⟩, by decide⟩
theorem headOk_text (w h : Int) (hw0 : 0 ≤ w) (hw : w ≤ maxCount) (hh0 : 0 ≤ h) (hh : h ≤ maxCount) : headOk (headText w h) = true := by
  unfold headText
  rw [List.append_assoc, List.append_assoc, List.append_assoc, head_of _ _ (by omega)]
  exact tailOk_rule _ (by omega)
theorem box_small {l : List (Int × Int)} (hr : rightB l = true) : 0 ≤ boxW l ∧ boxW l ≤ 2199023255553 ∧ 0 ≤ boxH l ∧ boxH l ≤ 2199023255553 := by
  by_cases h : l = []
  · subst h; exact ⟨by decide, by decide, by decide, by decide⟩
  · have h0 : 0 < l.length := by
      cases l with
      | nil => exact absurd rfl h
      | cons a r => simp
    obtain ⟨b1, b2, b3, b4⟩ := box_facts hr 0 h0
    have hs := sides_in hr h0 l.length (Nat.le_refl _)
    have hr0 := right_in hr 0 h0
    have hr1 := right_in hr (l.length - 1) (by omega)
    have hl := box_facts hr (l.length - 1) (by omega)
    have hne : ¬ (l = [] ∨ rightB l = false) := by
      rintro (h' | h')
      · exact h h'
      · rw [hr] at h'; cases h'
    have eW : boxW l = rights l l.length - lefts l l.length + 1 := by unfold boxW boxOf; rw [if_neg hne]
    have eH : boxH l = (l[l.length - 1]).2 - (l[0]).2 + 1 := by
      unfold boxH boxOf; rw [if_neg hne, getD_at _ _ 0 h0, getD_at _ _ (l.length - 1) (by omega)]
    omega
/-- WHAT IS PRINTED IS PARSED. -/
theorem parse_print {l : List (Int × Int)} (hr : rightB l = true) (hW : boxW l ≤ maxCoord) (hH : boxH l ≤ maxCoord + 1) (hlen : (printOf l).1.length ≤ 20000) :
    parseP (printOf l).1 = (l.map (fun c => (c.1 - boxX l, c.2 - boxY l)), 0, 0) := by
  have hbs := box_small hr
  unfold printOf at hlen ⊢
  rw [if_pos hr] at hlen ⊢
  dsimp only at hlen ⊢
  have hl := head_line (boxW l) (boxH l)
  rw [parse_head _ _ (by rw [hl.2]; decide) hl.1 hlen, if_pos (headOk_text _ _ hbs.1 (by unfold maxCount; omega) hbs.2.2.1 (by unfold maxCount; omega))]
  obtain ⟨q, hc, ho⟩ := pr_came hr hW hH
  rw [← ho]
  refine body_text _ _ _ hc.each hc.all [10] ?_
  simp only [List.length_append, List.length_cons] at hlen ⊢
  omega
end Go.Proofs.YtnpndkmcgpaibaaDoor
