/- Plain: a pattern's items told one by one. No walk in this text. -/
import Derived.Test.YtnpndkmcgpaibaaDoorPG
set_option linter.unusedVariables false
namespace Go.Proofs.YtnpndkmcgpaibaaDoor
open Go.RowKit

/-! ### how great an item's number is -/
structure Sm (k : Nat) (s : Wr) : Prop where
  all : ∀ z ∈ s.items, z.n ≤ 15 + k
  last : ∀ z, s.items.getLast? = some z → z.tag = 111
theorem put_new {l : List It} {t : UInt8} {n B : Int} (hl : ∀ z, l.getLast? = some z → z.tag ≠ t) (ha : ∀ z ∈ l, z.n ≤ B) (hn : n ≤ B) : (∀ z ∈ putIt l t n, z.n ≤ B) ∧ (n ≠ 0 → ∀ z, (putIt l t n).getLast? = some z → z.tag = t) ∧ (n = 0 → putIt l t n = l) := by
  by_cases h0 : n = 0
  · subst h0; rw [putIt_zero]; exact ⟨ha, fun h => absurd rfl h, fun _ => rfl⟩
  · have hform : putIt l t n = l ++ [⟨t, n, 0⟩] := by
      by_cases he : l = []
      · subst he; rw [putIt_nil h0]; rfl
      · obtain ⟨d, z, rfl⟩ := list_snoc l he
        exact putIt_other h0 (hl z (by simp))
    rw [hform]
    refine ⟨fun z hz => ?_, fun _ z hz => ?_, fun h => absurd h h0⟩
    · rcases List.mem_append.1 hz with hz | hz
      · exact ha z hz
      · rw [List.mem_singleton.1 hz]; exact hn
    · simp at hz; rw [← hz]
theorem put_one {l : List It} {B : Int} (ha : ∀ z ∈ l, z.n ≤ B) (hB : 0 ≤ B) : (∀ z ∈ putIt l 111 1, z.n ≤ B + 1) ∧ ∀ z, (putIt l 111 1).getLast? = some z → z.tag = 111 := by
  by_cases he : l = []
  · subst he
    rw [putIt_nil (by decide)]
    refine ⟨fun z hz => ?_, fun z hz => ?_⟩
    · rw [List.mem_singleton.1 hz]; dsimp only; omega
    · simp at hz; rw [← hz]
  · obtain ⟨d, y, rfl⟩ := list_snoc l he
    have hy := ha y (by simp)
    have hd : ∀ z ∈ d, z.n ≤ B := fun z hz => ha z (by simp [hz])
    by_cases ht : y.tag = 111
    · rw [putIt_same (by decide) ht]
      refine ⟨fun z hz => ?_, fun z hz => ?_⟩
      · rcases List.mem_append.1 hz with hz | hz
        · have := hd z hz; omega
        · rw [List.mem_singleton.1 hz]; dsimp only; omega
      · simp at hz; rw [← hz]
    · rw [putIt_other (by decide) ht]
      refine ⟨fun z hz => ?_, fun z hz => ?_⟩
      · rcases List.mem_append.1 hz with hz | hz
        · have := ha z hz; omega
        · rw [List.mem_singleton.1 hz]; dsimp only; omega
      · simp at hz; rw [← hz]
theorem sm_step {bx : Int} {k : Nat} {s : Wr} {c : Int × Int} (h : Sm k s) (h1 : c.1 - bx ≤ 15) (h2 : c.2 - s.y ≤ 15) (h3 : c.1 - s.x ≤ 15) : Sm (k + 1) (prStep bx s c) := by
  obtain ⟨ha, hl⟩ := h
  have hB : (0 : Int) ≤ 15 + k := by omega
  have fin : ∀ l : List It, (∀ z ∈ l, z.n ≤ 15 + (k : Int)) → (∀ z ∈ putIt l 111 1, z.n ≤ 15 + ((k + 1 : Nat) : Int)) ∧ ∀ z, (putIt l 111 1).getLast? = some z → z.tag = 111 := fun l hal => by
    obtain ⟨a, b⟩ := put_one hal hB
    exact ⟨fun z hz => by have := a z hz; push_cast; omega, b⟩
  by_cases hlt : s.y < c.2
  · rw [prStep_lt hlt]
    obtain ⟨a1, b1, _⟩ := put_new (t := 36) (n := c.2 - s.y) (B := 15 + k) (fun z hz => by rw [hl z hz]; decide) ha (by omega)
    obtain ⟨a2, _, _⟩ := put_new (t := 98) (n := c.1 - bx) (B := 15 + k) (fun z hz => by rw [b1 (by omega) z hz]; decide) a1 (by omega)
    obtain ⟨a3, b3⟩ := fin _ a2
    exact ⟨a3, b3⟩
  · rw [prStep_ge hlt]
    obtain ⟨a2, _, _⟩ := put_new (t := 98) (n := c.1 - s.x) (B := 15 + k) (fun z hz => by rw [hl z hz]; decide) ha (by omega)
    obtain ⟨a3, b3⟩ := fin _ a2
    exact ⟨a3, b3⟩
theorem items_small {l : List (Int × Int)} (hr : rightB l = true) (hm : ∀ x ∈ l, -8 ≤ x.1 ∧ x.1 ≤ 7 ∧ -8 ≤ x.2 ∧ x.2 ≤ 7) (hl : l.length ≤ 60) : ∀ z ∈ itemsOf l, z.n ≤ 75 := by
  by_cases hne : l = []
  · subst hne; intro z hz; simp [itemsOf, prFold] at hz
  · obtain ⟨x0, y0, _, _⟩ := box_bounds hr (-8) 7 (-8) 7 hm hne
    have key : ∀ k, k ≤ l.length → Sm k (prFold (boxX l) (boxY l) (l.take k)) ∧ -8 ≤ (prFold (boxX l) (boxY l) (l.take k)).x ∧ -8 ≤ (prFold (boxX l) (boxY l) (l.take k)).y := by
      intro k
      induction k with
      | zero => intro _; exact ⟨⟨by simp [prFold], by simp [prFold]⟩, by simpa [prFold] using x0, by simpa [prFold] using y0⟩
      | succ k ih =>
        intro hk
        obtain ⟨hs, hx, hy⟩ := ih (by omega)
        rw [prFold_succ _ _ _ _ (by omega)]
        have hc := hm l[k] (List.getElem_mem (by omega))
        refine ⟨sm_step hs (by omega) (by omega) (by omega), ?_, ?_⟩
        · by_cases h : (prFold (boxX l) (boxY l) (l.take k)).y < (l[k]).2
          · rw [prStep_lt h]; dsimp only; omega
          · rw [prStep_ge h]; dsimp only; omega
        · by_cases h : (prFold (boxX l) (boxY l) (l.take k)).y < (l[k]).2
          · rw [prStep_lt h]; dsimp only; omega
          · rw [prStep_ge h]; exact hy
    have := (key l.length (Nat.le_refl _)).1.all
    rw [List.take_length] at this
    intro z hz
    have := this z hz
    omega

/-! ### one by one -/
def onesOf (l : List It) : List It := l.flatMap fun x => List.replicate x.n.toNat ⟨x.tag, 1, 0⟩
theorem err_less {p : Pen} {t : UInt8} {n k : Int} (h : penErr (penDo p t n) = 0) (h1 : k ≤ n) : penErr (penDo p t k) = 0 := by
  obtain ⟨e1, e2, e3⟩ := penErr_zero h
  revert e1 e2 e3
  unfold penDo
  split
  · intro e1 e2 e3; exact penErr_of (by dsimp only at *; omega) (by dsimp only at *; omega) (by dsimp only at *; omega)
  · split
    · intro e1 e2 e3; exact penErr_of (by dsimp only at *; omega) (by dsimp only at *; omega) (by dsimp only at *; omega)
    · intro e1 e2 e3; exact penErr_of (by dsimp only at *; omega) (by dsimp only at *; omega) (by dsimp only at *; omega)
theorem pen_rep {p : Pen} {t : UInt8} : ∀ n : Nat, penErr (penDo p t ((n + 1 : Nat) : Int)) = 0 → penAll (List.replicate (n + 1) ⟨t, 1, 0⟩) p = some (penDo p t ((n + 1 : Nat) : Int))
  | 0, h => (penAll_one _ _ _).2 ⟨h, rfl⟩
  | n + 1, h => by
    rw [List.replicate_succ', penAll_append, pen_rep n (err_less h (by push_cast; omega))]
    refine (penAll_one _ _ _).2 ?_
    have := penDo_add p t ((n + 1 : Nat) : Int) 1 (by omega) (by omega)
    have e : (((n + 1 : Nat) : Int) + 1) = ((n + 1 + 1 : Nat) : Int) := by push_cast; rfl
    rw [e] at this
    exact ⟨by rw [this]; exact h, this⟩
theorem ones_all : ∀ (l : List It) (p q : Pen), (∀ x ∈ l, valid x) → penAll l p = some q → penAll (onesOf l) p = some q
  | [], p, q, _, h => h
  | x :: r, p, q, hv, h => by
    have hx := (hv x (List.mem_cons_self ..)).2.1
    rw [penAll] at h
    split at h
    · rename_i h0
      show penAll (List.replicate x.n.toNat ⟨x.tag, 1, 0⟩ ++ onesOf r) p = some q
      obtain ⟨n, hn⟩ : ∃ n : Nat, x.n = ((n + 1 : Nat) : Int) := ⟨(x.n - 1).toNat, by omega⟩
      rw [hn] at h0 h
      rw [hn, Int.toNat_natCast, penAll_append, pen_rep n h0]
      exact ones_all r _ q (fun y hy => hv y (List.mem_cons_of_mem _ hy)) h
    · cases h
theorem ones_valid2 {l : List It} (h : ∀ x ∈ l, valid x) : ∀ x ∈ onesOf l, valid x := by
  intro x hx
  obtain ⟨y, hy, hxy⟩ := List.mem_flatMap.1 hx
  rw [List.eq_of_mem_replicate hxy]
  exact ⟨(h y hy).1, by show (1 : Int) ≤ 1; decide, by show (1 : Int) ≤ maxCoord; decide⟩
theorem ones_text2 {l : List It} (h : ∀ x ∈ l, valid x) : text (onesOf l) = l.flatMap fun x => List.replicate x.n.toNat x.tag := by
  induction l with
  | nil => rfl
  | cons x r ih =>
    show text (List.replicate x.n.toNat ⟨x.tag, 1, 0⟩ ++ onesOf r) = _
    rw [text_append, ih (fun y hy => h y (List.mem_cons_of_mem _ hy)), List.flatMap_cons]
    congr 1
    have ht := (h x (List.mem_cons_self ..)).1
    generalize x.n.toNat = n
    induction n with
    | zero => rfl
    | succ n ih2 =>
      rw [List.replicate_succ, List.replicate_succ]
      show itText ⟨x.tag, 1, 0⟩ ++ text (List.replicate n ⟨x.tag, 1, 0⟩) = _
      rw [ih2, itText, if_pos ⟨ht, by show (1 : Int) ≤ 1; decide, by show (1 : Int) ≤ maxCoord; decide⟩, if_neg (by show ¬ (1 : Int) < 1; decide)]
      rfl
/-- each number told as so many -/
def expB : List UInt8 → Int → List UInt8
  | [], _ => []
  | c :: r, n => if isDigit c = true then expB r (10 * n + ((c.toNat : Int) - 48)) else List.replicate (min (max n 1) 100).toNat c ++ expB r 0
theorem exp_digits : ∀ (d r : List UInt8) (n v : Int), d.all isDigit = true → rpLoop d n = (v, 0) → expB (d ++ r) n = expB r v
  | [], r, n, v, _, h => by rw [rpLoop] at h; rw [(Prod.mk.inj h).1]; rfl
  | c :: d, r, n, v, hd, h => by
    simp only [List.all_cons, Bool.and_eq_true] at hd
    rw [List.cons_append, expB, if_pos hd.1]
    rw [rpLoop] at h
    split at h
    · simp at h
    · exact exp_digits d r _ v hd.2 h
theorem exp_text : ∀ (l : List It) (r : List UInt8), (∀ x ∈ l, valid x) → (∀ x ∈ l, x.n ≤ 75) → expB (text l ++ r) 0 = (l.flatMap fun x => List.replicate x.n.toNat x.tag) ++ expB r 0
  | [], r, _, _ => rfl
  | x :: l, r, hv, hs => by
    have hx := hv x (List.mem_cons_self ..)
    have hn := hs x (List.mem_cons_self ..)
    have ht := tag_not hx.1
    have htx : text (x :: l) = itText x ++ text l := by simp [text]
    rw [htx, List.append_assoc, List.flatMap_cons, List.append_assoc, ← exp_text l r (fun y hy => hv y (List.mem_cons_of_mem _ hy)) (fun y hy => hs y (List.mem_cons_of_mem _ hy))]
    rw [itText, if_pos (show isTag x.tag = true ∧ 1 ≤ x.n ∧ x.n ≤ maxCoord from hx)]
    by_cases h1 : 1 < x.n
    · rw [if_pos h1, List.append_assoc, exp_digits (dec x.n.toNat) _ 0 x.n (dec_digits _) (by
        have := rp_dec x.n.toNat (by unfold maxCount; omega)
        rw [this]; congr 1; omega)]
      rw [List.singleton_append, expB, if_neg (by rw [ht.1]; simp)]
      congr 2
      omega
    · rw [if_neg h1, List.nil_append, List.singleton_append, expB, if_neg (by rw [ht.1]; simp)]
      congr 2
      have := hx.2.1
      omega
end Go.Proofs.YtnpndkmcgpaibaaDoor
