/- Plain laws on numbers' texts: chapter 3's two readers agree. No walk in this text. -/
import Derived.Test.YtnpndkmcgpaibaaDoorD
set_option linter.unusedVariables false
namespace Go.Proofs.YtnpndkmcgpaibaaDoor
open Go.RowKit

def rpLoop : List UInt8 → Int → Int × Int
  | [], n => (n, 0)
  | c :: r, n => if (maxCount - ((c.toNat : Int) - 48)) / 10 < n then (0, 21) else rpLoop r (10 * n + ((c.toNat : Int) - 48))
def rparse (l : List UInt8) : Int × Int :=
  if l.all isDigit = false then (0, 20)
  else if l = [] ∨ (1 < l.length ∧ l.head? = some 48) then (0, 20)
  else if 19 < l.length then (0, 21)
  else rpLoop l 0

theorem dig_bounds {c : UInt8} (h : isDigit c = true) : 48 ≤ (c.toNat : Int) ∧ (c.toNat : Int) ≤ 57 := by
  unfold isDigit at h; simp [UInt8.le_iff_toNat_le] at h; omega

theorem cp_nondigit : ∀ (l : List UInt8) (i : Nat) (n : Int) (big : Bool), l.all isDigit = false → cpLoop l i n big = (0, 20)
  | [], _, _, _, h => by simp at h
  | c :: r, i, n, big, h => by
    rw [cpLoop]
    by_cases hc : isDigit c = false
    · rw [if_pos (.inl hc)]
    · have hr : r.all isDigit = false := by
        simp only [List.all_cons] at h
        rw [show isDigit c = true by simpa using hc] at h
        simpa using h
      by_cases h1 : isDigit c = false ∨ (i = 1 ∧ n = 0)
      · rw [if_pos h1]
      · rw [if_neg h1]
        split
        · exact cp_nondigit r _ _ _ hr
        · split
          · exact cp_nondigit r _ _ _ hr
          · exact cp_nondigit r _ _ _ hr

theorem cp_true : ∀ (r : List UInt8) (i : Nat) (n : Int), r.all isDigit = true → n ≠ 0 → cpLoop r i n true = (0, 21)
  | [], _, _, _, _ => by rw [cpLoop]; rfl
  | c :: r, i, n, h, hn => by
    simp only [List.all_cons, Bool.and_eq_true] at h
    rw [cpLoop, if_neg (by rintro (h1 | ⟨_, h1⟩); rw [h.1] at h1; cases h1; exact hn h1)]
    split
    · exact cp_true r _ _ h.2 hn
    · exact cp_true r _ _ h.2 hn

theorem cp_false : ∀ (r : List UInt8) (i : Nat) (n : Int), r.all isDigit = true → 0 < n → cpLoop r i n false = rpLoop r n
  | [], _, _, _, _ => by rw [cpLoop, rpLoop]; rfl
  | c :: r, i, n, h, hn => by
    simp only [List.all_cons, Bool.and_eq_true] at h
    have hb := dig_bounds h.1
    rw [cpLoop, rpLoop, if_neg (by rintro (h1 | ⟨_, h1⟩); rw [h.1] at h1; cases h1; omega)]
    split
    · exact cp_true r _ _ h.2 (by omega)
    · exact cp_false r _ _ h.2 (by omega)

theorem rp_big : ∀ (r : List UInt8) (n : Int), r.all isDigit = true → 0 ≤ n → n ≤ maxCount → maxCount < n * 10 ^ r.length → rpLoop r n = (0, 21)
  | [], n, _, _, h1, h2 => by simp at h2; omega
  | c :: r, n, h, h0, h1, h2 => by
    simp only [List.all_cons, Bool.and_eq_true] at h
    have hb := dig_bounds h.1
    rw [rpLoop]
    split
    · rfl
    · rename_i hov
      refine rp_big r _ h.2 (by omega) (by unfold maxCount at *; omega) ?_
      have h3 : n * 10 ^ (r.length + 1) = (10 * n) * 10 ^ r.length := by rw [Int.pow_succ]; rw [Int.mul_comm 10 n, Int.mul_assoc, Int.mul_comm 10]
      have h4 : (10 * n) * 10 ^ r.length ≤ (10 * n + ((c.toNat : Int) - 48)) * 10 ^ r.length := Int.mul_le_mul_of_nonneg_right (by omega) (Int.pow_nonneg (by omega))
      simp only [List.length_cons] at h2
      omega

theorem cparse_eq (l : List UInt8) : cparse l = rparse l := by
  unfold cparse rparse
  by_cases h0 : l.all isDigit = false
  · rw [if_pos h0]
    split
    · rfl
    · exact cp_nondigit l _ _ _ h0
  · have hall : l.all isDigit = true := by simpa using h0
    rw [if_neg h0]
    cases l with
    | nil => rw [if_pos rfl, if_pos (.inl rfl)]
    | cons c r =>
      rw [if_neg (by simp)]
      simp only [List.all_cons, Bool.and_eq_true] at hall
      have hb := dig_bounds hall.1
      have hfirst : cpLoop (c :: r) 0 0 false = cpLoop r 1 ((c.toNat : Int) - 48) false := by
        rw [cpLoop, if_neg (by rintro (h1 | ⟨h1, _⟩); rw [hall.1] at h1; cases h1; cases h1), if_neg (by unfold maxCount; omega), if_neg (by simp)]
        simp
      have hfirst2 : rpLoop (c :: r) 0 = rpLoop r ((c.toNat : Int) - 48) := by
        rw [rpLoop, if_neg (by unfold maxCount; omega)]; simp
      rw [hfirst, hfirst2]
      cases r with
      | nil =>
        rw [if_neg (by simp), if_neg (by simp), cpLoop, rpLoop]; rfl
      | cons c2 r2 =>
        by_cases hz : c = 48
        · subst hz
          rw [if_pos (.inr ⟨by simp, rfl⟩), cpLoop, if_pos (.inr ⟨rfl, by decide⟩)]
        · have hc48 : c.toNat ≠ 48 := fun h => hz (UInt8.toNat_inj.1 h)
          rw [if_neg (by rintro (h | ⟨_, h⟩); cases h; exact hz (by simpa using h)), cp_false _ _ _ hall.2 (by omega)]
          split
          · rename_i hlen
            refine rp_big _ _ hall.2 (by omega) (by unfold maxCount; omega) ?_
            obtain ⟨m, hm⟩ : ∃ m, (c2 :: r2).length = 19 + m := ⟨(c2 :: r2).length - 19, by simp only [List.length_cons] at *; omega⟩
            rw [hm]
            have h5 : (10 : Int) ^ 19 ≤ 10 ^ (19 + m) := by
              rw [Int.pow_add]
              have : (1 : Int) ≤ 10 ^ m := by have := Nat.one_le_pow m 10 (by decide); exact_mod_cast this
              have h6 : (10 : Int) ^ 19 * 1 ≤ 10 ^ 19 * 10 ^ m := Int.mul_le_mul_of_nonneg_left this (by decide)
              omega
            have h7 : 1 * (10 : Int) ^ (19 + m) ≤ ((c.toNat : Int) - 48) * 10 ^ (19 + m) := Int.mul_le_mul_of_nonneg_right (by omega) (Int.pow_nonneg (by omega))
            have h8 : maxCount < (10 : Int) ^ 19 := by decide
            omega
          · rfl
end Go.Proofs.YtnpndkmcgpaibaaDoor
