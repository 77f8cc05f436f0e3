/- Plain laws on what is read of a text: the items' kinds, numbers and places. No walk in this text. -/
import Derived.Test.YtnpndkmcgpaibaaDoorM
set_option linter.unusedVariables false
namespace Go.Proofs.YtnpndkmcgpaibaaDoor
open Go.RowKit

theorem runLen_take (p : UInt8 → Bool) (l : List UInt8) : (l.take (runLen p l)).all p = true := by
  induction l with
  | nil => rfl
  | cons c r ih =>
    cases hc : p c with
    | true => rw [runLen_cons_true _ hc, List.take_succ_cons, List.all_cons, hc, ih]; rfl
    | false => rw [runLen_cons_false _ hc]; rfl
theorem rp_bound : ∀ (l : List UInt8) (n v : Int), l.all isDigit = true → 0 ≤ n → rpLoop l n = (v, 0) → n * 10 ^ l.length ≤ v ∧ v < (n + 1) * 10 ^ l.length
  | [], n, v, _, h0, h => by
    rw [rpLoop] at h
    obtain ⟨rfl, -⟩ := Prod.mk.inj h
    simp; omega
  | c :: r, n, v, hd, h0, h => by
    simp only [List.all_cons, Bool.and_eq_true] at hd
    have hb := dig_bounds hd.1
    rw [rpLoop] at h
    split at h
    · simp at h
    · obtain ⟨h1, h2⟩ := rp_bound r _ v hd.2 (by omega) h
      have e : ∀ z : Int, z * 10 ^ (r.length + 1) = (10 * z) * 10 ^ r.length := fun z => by rw [Int.pow_succ, Int.mul_comm 10 z, Int.mul_assoc, Int.mul_comm 10]
      have hp : (0 : Int) ≤ 10 ^ r.length := Int.pow_nonneg (by omega)
      have h3 : (10 * n) * (10 : Int) ^ r.length ≤ (10 * n + ((c.toNat : Int) - 48)) * 10 ^ r.length := Int.mul_le_mul_of_nonneg_right (by omega) hp
      have h4 : (10 * n + ((c.toNat : Int) - 48) + 1) * (10 : Int) ^ r.length ≤ (10 * (n + 1)) * 10 ^ r.length := Int.mul_le_mul_of_nonneg_right (by omega) hp
      rw [List.length_cons, e, e]
      omega
theorem cparse_bound {l : List UInt8} (hd : l.all isDigit = true) (hne : l ≠ []) (hh : l.head? ≠ some 48) (he : (cparse l).2 = 0) : 1 ≤ (cparse l).1 ∧ (cparse l).1 < 10 ^ l.length := by
  rw [cparse_eq] at he ⊢
  unfold rparse at he ⊢
  rw [hd] at he ⊢
  rw [if_neg (by simp)] at he ⊢
  split at he
  · simp at he
  · rename_i hx
    rw [if_neg hx]
    split at he
    · simp at he
    · rename_i hy
      rw [if_neg hy]
      cases l with
      | nil => exact absurd rfl hne
      | cons c r =>
        have hd' := hd
        simp only [List.all_cons, Bool.and_eq_true] at hd'
        have hb := dig_bounds hd'.1
        have hc : c.toNat ≠ 48 := fun e => hh (by rw [List.head?_cons, show c = 48 from UInt8.toNat_inj.1 e])
        have heq : rpLoop (c :: r) 0 = ((rpLoop (c :: r) 0).1, 0) := Prod.ext rfl he
        have h1 := rp_bound (c :: r) 0 _ hd (by omega) heq
        have h2 : rpLoop (c :: r) 0 = rpLoop r ((c.toNat : Int) - 48) := by rw [rpLoop, if_neg (by unfold maxCount; omega)]; simp
        rw [h2] at heq h1 ⊢
        have h3 := rp_bound r _ _ hd'.2 (by omega) heq
        have hp : (1 : Int) ≤ 10 ^ r.length := by have := Nat.one_le_pow r.length 10 (by decide); exact_mod_cast this
        have h4 : 1 * (10 : Int) ^ r.length ≤ ((c.toNat : Int) - 48) * 10 ^ r.length := Int.mul_le_mul_of_nonneg_right (by omega) (by omega)
        refine ⟨by omega, ?_⟩
        have := h1.2
        simpa using this

theorem item_inr {l : List UInt8} {c : UInt8} {n : Int} {m : Nat} (h : item l = .inr (c, n, m)) : isTag c = true ∧ 1 ≤ n ∧ n ≤ maxCoord ∧ ∀ a, (itText ⟨c, n, a⟩).length ≤ m := by
  have hall := runLen_take isDigit l
  have hkl := runLen_le isDigit l
  unfold item at h
  generalize runLen isDigit l = k at *
  dsimp only at h
  split at h
  · simp at h
  · rename_i c' q hdrop
    split at h
    · simp at h
    · rename_i htag
      split at h
      · simp only [Sum.inr.injEq, Prod.mk.injEq] at h
        obtain ⟨rfl, rfl, rfl⟩ := h
        have ht : isTag c' = true := by simpa using htag
        refine ⟨ht, by omega, by decide, fun a => ?_⟩
        rw [itText, if_pos ⟨ht, (show (1 : Int) ≤ 1 by omega), (show (1 : Int) ≤ maxCoord by decide)⟩]
        simp
      · rename_i hk0
        split at h
        · simp at h
        · rename_i hh
          split at h
          · simp at h
          · rename_i hcp
            simp only [Sum.inr.injEq, Prod.mk.injEq] at h
            obtain ⟨rfl, rfl, rfl⟩ := h
            have ht : isTag c' = true := by simpa using htag
            have hlen : (l.take k).length = k := by rw [List.length_take]; omega
            have hb := cparse_bound hall (fun e => by rw [e] at hlen; simp at hlen; omega) (by
              intro e
              apply hh
              cases l with
              | nil => simp at e
              | cons d r =>
                cases k with
                | zero => exact absurd rfl hk0
                | succ k => simpa using e) (by
              by_cases hz : (cparse (l.take k)).2 = 0
              · exact hz
              · exact absurd (.inl hz) hcp)
            rw [hlen] at hb
            have hmax : (cparse (l.take k)).1 ≤ maxCoord := by
              by_cases hz : maxCoord < (cparse (l.take k)).1
              · exact absurd (.inr hz) hcp
              · omega
            refine ⟨ht, hb.1, hmax, fun a => ?_⟩
            generalize (cparse (l.take k)).1 = v at *
            rw [itText, if_pos ⟨ht, hb.1, hmax⟩]
            split
            · obtain ⟨j, rfl⟩ : ∃ j, k = j + 1 := ⟨k - 1, by omega⟩
              have h2 := dec_len v.toNat j (by
                have h3 := hb.2
                have h4 : ((v.toNat : Nat) : Int) < ((10 ^ (j + 1) : Nat) : Int) := by rw [Int.toNat_of_nonneg (by omega)]; exact_mod_cast h3
                exact_mod_cast h4)
              simp only [List.length_append, List.length_cons, List.length_nil]
              omega
            · simp
theorem item_inl {l : List UInt8} {e : Int} (h : item l = .inl e) : e ≠ 31 ∧ e ≠ 0 := by
  unfold item at h
  dsimp only at h
  split at h
  · simp at h; omega
  · split at h
    · simp at h; omega
    · split at h
      · simp at h
      · split at h
        · simp at h; omega
        · split at h
          · simp at h; omega
          · simp at h

/-- what is known of what was read; N: the text's length -/
structure LexFacts (N : Int) (r : List It × Int × Int) : Prop where
  none_ : r.2.1 ≠ 0 → r.1 = []
  lo : 0 ≤ r.2.2
  hi : r.2.2 ≤ N
  out : r.2.1 = 31 → r.2.2 = N
  each : r.2.1 = 0 → ∀ x ∈ r.1, valid x ∧ 0 ≤ x.at_ ∧ x.at_ < r.2.2
  up : r.2.1 = 0 → r.1.Pairwise (fun x y => x.at_ < y.at_)
  told : r.2.1 = 0 → ((text r.1).length : Int) ≤ r.2.2
  end_ : r.2.1 = 0 → r.2.2 + 1 ≤ N

theorem lexLoop_facts (N : Int) : ∀ (f : Nat) (l : List UInt8) (at_ : Int) (acc : List It), at_ + l.length = N → l.length < f → 0 ≤ at_ → (∀ x ∈ acc, valid x ∧ 0 ≤ x.at_ ∧ x.at_ < at_) →
    acc.Pairwise (fun x y => x.at_ < y.at_) → ((text acc).length : Int) ≤ at_ → LexFacts N (lexLoop f l at_ acc)
  | 0, l, at_, acc, _, hf, _, _, _, _ => by omega
  | f + 1, l, at_, acc, hN, hf, h0, ha, hp, ht => by
    have hk := runLen_le isBlank l
    rw [lexLoop]
    generalize runLen isBlank l = k at *
    split
    · rename_i hd
      have hlen : k = l.length := by
        have := congrArg List.length hd
        simp at this; omega
      exact ⟨fun _ => rfl, by show 0 ≤ at_ + k; omega, by show at_ + k ≤ N; omega, fun _ => by show at_ + k = N; omega, fun h => absurd h (show ¬ ((31 : Int) = 0) by decide), fun h => absurd h (show ¬ ((31 : Int) = 0) by decide), fun h => absurd h (show ¬ ((31 : Int) = 0) by decide), fun h => absurd h (show ¬ ((31 : Int) = 0) by decide)⟩
    · rename_i c q hd
      have hlen : (l.drop k).length = q.length + 1 := by rw [hd]; rfl
      rw [List.length_drop] at hlen
      split
      · exact ⟨fun h => absurd rfl h, by show 0 ≤ at_ + k; omega, by show at_ + k ≤ N; omega, fun h => absurd h (show ¬ ((0 : Int) = 31) by decide), fun _ x hx => ⟨(ha x hx).1, (ha x hx).2.1, by have := (ha x hx).2.2; show x.at_ < at_ + k; omega⟩, fun _ => hp,
          fun _ => by show ((text acc).length : Int) ≤ at_ + k; omega, fun _ => by show at_ + k + 1 ≤ N; omega⟩
      · split
        · rename_i e he
          have hne := item_inl he
          exact ⟨fun _ => rfl, by show 0 ≤ at_ + k; omega, by show at_ + k ≤ N; omega, fun h => absurd h hne.1, fun h => absurd h hne.2, fun h => absurd h hne.2, fun h => absurd h hne.2, fun h => absurd h hne.2⟩
        · rename_i t n m he
          have hm := item_more he
          have hi := item_inr he
          rw [← hd] at *
          rw [List.length_drop] at hm
          refine lexLoop_facts N f _ _ _ ?_ ?_ (by omega) ?_ ?_ ?_
          · rw [List.length_drop, List.length_drop]; omega
          · rw [List.length_drop, List.length_drop]; omega
          · intro x hx
            rcases List.mem_append.1 hx with hx | hx
            · exact ⟨(ha x hx).1, (ha x hx).2.1, by have := (ha x hx).2.2; omega⟩
            · rw [List.mem_singleton] at hx
              subst hx
              exact ⟨⟨hi.1, hi.2.1, hi.2.2.1⟩, by show 0 ≤ at_ + k; omega, by show at_ + k < _; omega⟩
          · rw [List.pairwise_append]
            refine ⟨hp, by simp, fun x hx y hy => ?_⟩
            rw [List.mem_singleton] at hy
            subst hy
            have := (ha x hx).2.2
            show x.at_ < at_ + k
            omega
          · rw [text_append, List.length_append]
            have h5 := hi.2.2.2 (at_ + k)
            have h6 : text [⟨t, n, at_ + k⟩] = itText ⟨t, n, at_ + k⟩ := by simp [text]
            rw [h6]
            push_cast
            omega
theorem lex_facts (x : List UInt8) : LexFacts x.length (lex x) ∧ ((lex x).2.1 = 0 → x.length ≤ 20000) := by
  unfold lex
  split
  · exact ⟨⟨fun _ => rfl, by simp, by simp, fun h => absurd h (by simp), fun h => absurd h (by simp), fun h => absurd h (by simp), fun h => absurd h (by simp), fun h => absurd h (by simp)⟩, fun h => absurd h (by simp)⟩
  · exact ⟨lexLoop_facts _ _ _ _ _ (by omega) (by omega) (by omega) (by simp) (by simp) (by simp [text]), fun _ => by omega⟩
end Go.Proofs.YtnpndkmcgpaibaaDoor
