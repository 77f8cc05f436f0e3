/- Walks of count.Parse. -/
import Derived.Test.YtnpndkmcgpaibaaDoorC
set_option linter.unusedVariables false
namespace Go.Proofs.YtnpndkmcgpaibaaDoor
open Go.RowKit Go.Sort

theorem dig_true {c : UInt8} (h1 : 48 ≤ (c.toNat : Int)) (h2 : (c.toNat : Int) ≤ 57) : isDigit c = true := by
  unfold isDigit; simp [UInt8.le_iff_toNat_le]; omega
theorem dig_false {c : UInt8} (h : (c.toNat : Int) < 48 ∨ 57 < (c.toNat : Int)) : isDigit c = false := by
  unfold isDigit; simp [UInt8.le_iff_toNat_le]; omega
theorem cp_bad {c : UInt8} {r : List UInt8} {k : Nat} {n : Int} {big : Bool} (h : (c.toNat : Int) < 48 ∨ 57 < (c.toNat : Int) ∨ ((k : Int) = 1 ∧ n = 0)) : cpLoop (c :: r) k n big = (0, 20) := by
  rw [cpLoop, if_pos]
  rcases h with h | h | ⟨h1, h2⟩
  · exact .inl (dig_false (.inl h))
  · exact .inl (dig_false (.inr h))
  · exact .inr ⟨by omega, h2⟩
theorem cp_over {c : UInt8} {r : List UInt8} {k : Nat} {n : Int} {big : Bool} (h1 : 48 ≤ (c.toNat : Int)) (h2 : (c.toNat : Int) ≤ 57) (h3 : ¬ ((k : Int) = 1 ∧ n = 0)) (h4 : (4611686018427387903 - ((c.toNat : Int) - 48)) / 10 < n) : cpLoop (c :: r) k n big = cpLoop r (k + 1) n true := by
  rw [cpLoop, if_neg, if_pos (by unfold maxCount; exact h4)]
  rintro (h | ⟨h5, h6⟩)
  · rw [dig_true h1 h2] at h; cases h
  · exact h3 ⟨by omega, h6⟩
theorem cp_keep {c : UInt8} {r : List UInt8} {k : Nat} {n : Int} (h1 : 48 ≤ (c.toNat : Int)) (h2 : (c.toNat : Int) ≤ 57) (h3 : ¬ ((k : Int) = 1 ∧ n = 0)) (h4 : n ≤ (4611686018427387903 - ((c.toNat : Int) - 48)) / 10) : cpLoop (c :: r) k n true = cpLoop r (k + 1) n true := by
  rw [cpLoop, if_neg, if_neg (by unfold maxCount; omega), if_pos rfl]
  rintro (h | ⟨h5, h6⟩)
  · rw [dig_true h1 h2] at h; cases h
  · exact h3 ⟨by omega, h6⟩
theorem cp_add {c : UInt8} {r : List UInt8} {k : Nat} {n : Int} (h1 : 48 ≤ (c.toNat : Int)) (h2 : (c.toNat : Int) ≤ 57) (h3 : ¬ ((k : Int) = 1 ∧ n = 0)) (h4 : n ≤ (4611686018427387903 - ((c.toNat : Int) - 48)) / 10) : cpLoop (c :: r) k n false = cpLoop r (k + 1) (10 * n + ((c.toNat : Int) - 48)) false := by
  rw [cpLoop, if_neg, if_neg (by unfold maxCount; omega), if_neg (by simp)]
  rintro (h | ⟨h5, h6⟩)
  · rw [dig_true h1 h2] at h; cases h
  · exact h3 ⟨by omega, h6⟩
theorem ret2_eq {p : Int × Int} {a b : Int} (h : p = (a, b)) : Ending.returned (.tuple #[.int .i64 a, .int .i64 b]) = .returned (.tuple #[.int .i64 p.1, .int .i64 p.2]) := by rw [h]
theorem cparse_ne {l : List UInt8} {k : Nat} (h : k < l.length) : cparse l = cpLoop l 0 0 false := by
  unfold cparse; rw [if_neg]; intro e; subst e; simp at h
theorem cpLoop_end (k : Nat) (n : Int) (big : Bool) : cpLoop [] k n big = if big then (0, 21) else (n, 0) := by rw [cpLoop]

set_option maxHeartbeats 4000000 in
theorem parse_any (l : List UInt8) (w : World) (hl : l.length ≤ 4611686018427387904) :
    Calls Tryd.prog 66 #[.string (S l)] w fun e w' => e = .returned (.tuple #[.int .i64 (cparse l).1, .int .i64 (cparse l).2]) ∧ Below w.heap.size w w' := by
  have hsz := S_size l
  have htl := S_toList l
  go_enter Tryd.func66, Tryd.ntmps66
  go_wp2
  go_loopw [4, 5] (fun vn vb wr => ∃ (k : Nat) (n : Int) (big : Bool), k ≤ l.length ∧ vn = .int .i64 n ∧ vb = .bool big ∧ 0 ≤ n ∧ n ≤ 4611686018427387903 ∧ wr.heap[w.heap.size]? = some (.stringIter (S l) k) ∧ Below w.heap.size w wr ∧ cpLoop (l.drop k) k n big = cpLoop l 0 0 false) (fun _ _ wr => l.length - wr.iterPos w.heap.size)
  case atStart =>
    exact ⟨0, 0, false, Nat.zero_le _, rfl, rfl, by omega, by omega, World.iter_heap _ _ _, (Below.refl _ w).alloc (Nat.le_refl _) _, by simp⟩
  case round =>
    obtain ⟨k, n, big, hk, rfl, rfl, hn0, hn1, hit, hbw, hrun⟩ := hrel
    have hlt : w.heap.size < wr.heap.size := (Array.getElem?_eq_some_iff.1 hit).1
    by_cases hp : k < l.length
    · have hp' : k < (S l).size := by rw [S_size]; exact hp
      obtain ⟨c, hc⟩ : ∃ c, l[k]'hp = c := ⟨_, rfl⟩
      have hget : (S l)[k]'hp' = c := (S_get l k hp').trans hc
      rw [List.drop_eq_getElem_cons hp, hc] at hrun
      have HR : Hid _ := hrun
      have HP : Hid _ := iterPos_of hit
      clear hrun hc
      by_cases ha : c.toNat < 128
      · have hnx : ∀ ty, (Instr.next (.pointer (some ⟨w.heap.size, 0, none⟩)) true ty).run Tryd.prog wr = _ := fun ty => Lib.run_next_ascii_at wr w.heap.size (S l) k ty hit hp' (by rw [hget]; exact ha)
        rw [hget] at hnx
        clear hget
        have hit2 := Lib.iterAt_heap wr w.heap.size (S l) k (k + 1) hit
        have hbw2 := Lib.below_iterAt hbw (k := w.heap.size) (Nat.le_refl _) (S l) (k + 1)
        have hd0 : 0 ≤ (c.toNat : Int) := by omega
        have HE : Hid _ := cparse_ne hp
        have hm : IntKind.i32.wrap ((c.toNat : Int) - 48) = (c.toNat : Int) - 48 := by unfold IntKind.wrap; simp [IntKind.bits, IntKind.signed]; omega
        by_cases hbad : (c.toNat : Int) < 48 ∨ 57 < (c.toNat : Int) ∨ ((k : Int) = 1 ∧ n = 0)
        · have HB : Hid _ := cp_bad (r := l.drop (k + 1)) (big := big) hbad
          have HX := HR.out
          rw [HB.out] at HX
          have HY : Hid _ := HX
          clear HX
          rcases hbad with h | h | ⟨h, h'⟩
          · go_wp2
            go_ret2
            exact ⟨ret2_eq (HE.out.trans HY.out.symm), hbw2⟩
          · have h48 : ¬ (c.toNat : Int) < 48 := by omega
            go_wp2
            go_ret2
            exact ⟨ret2_eq (HE.out.trans HY.out.symm), hbw2⟩
          · obtain rfl : k = 1 := by omega
            subst h'
            go_wp2
            all_goals
              go_ret2
              exact ⟨ret2_eq (HE.out.trans HY.out.symm), hbw2⟩
        · have h1 : 48 ≤ (c.toNat : Int) := by omega
          have h2 : (c.toNat : Int) ≤ 57 := by omega
          have h3 : ¬ ((k : Int) = 1 ∧ n = 0) := fun h => hbad (.inr (.inr h))
          clear hbad
          have hg : (((k : Int) == 1) && (n == 0)) = false := by
            rw [Bool.eq_false_iff]; intro h; simp at h; exact h3 ⟨by omega, h.2⟩
          by_cases h4 : (4611686018427387903 - ((c.toNat : Int) - 48)) / 10 < n
          · have HS : Hid _ := cp_over (r := l.drop (k + 1)) (big := big) h1 h2 h3 h4
            have H3 : Hid _ := h3
            clear h3
            by_cases hk1 : (k : Int) = 1
            · have hn : (n == 0) = false := by rw [beq_eq_false_iff_ne]; intro h; exact H3.out ⟨hk1, h⟩
              clear hg
              go_wp2
              go_roundw
              case rel => exact ⟨k + 1, n, true, by omega, rfl, rfl, hn0, hn1, hit2, hbw2, by rw [← HS.out, HR.out]⟩
              case measure => rw [iterPos_of hit2, HP.out]; omega
            · clear hg
              go_wp2
              go_roundw
              case rel => exact ⟨k + 1, n, true, by omega, rfl, rfl, hn0, hn1, hit2, hbw2, by rw [← HS.out, HR.out]⟩
              case measure => rw [iterPos_of hit2, HP.out]; omega
          · have h4' : n ≤ (4611686018427387903 - ((c.toNat : Int) - 48)) / 10 := by omega
            clear h4
            have hs1 : 0 ≤ 10 * n + ((c.toNat : Int) - 48) := by omega
            have hs2 : 10 * n + ((c.toNat : Int) - 48) ≤ 4611686018427387903 := by omega
            have HA : Hid _ := cp_add (r := l.drop (k + 1)) h1 h2 h3 h4'
            have HK : Hid _ := cp_keep (r := l.drop (k + 1)) h1 h2 h3 h4'
            have H3 : Hid _ := h3
            clear h3
            by_cases hk1 : (k : Int) = 1
            · have hn : (n == 0) = false := by rw [beq_eq_false_iff_ne]; intro h; exact H3.out ⟨hk1, h⟩
              clear hg
              cases big with
              | true =>
                go_wp2
                go_roundw
                case rel => exact ⟨k + 1, n, true, by omega, rfl, rfl, hn0, hn1, hit2, hbw2, by rw [← HK.out, HR.out]⟩
                case measure => rw [iterPos_of hit2, HP.out]; omega
              | false =>
                go_wp2
                go_roundw
                case rel => exact ⟨k + 1, _, false, by omega, rfl, rfl, hs1, hs2, hit2, hbw2, by rw [← HA.out, HR.out]⟩
                case measure => rw [iterPos_of hit2, HP.out]; omega
            · clear hg
              cases big with
              | true =>
                go_wp2
                go_roundw
                case rel => exact ⟨k + 1, n, true, by omega, rfl, rfl, hn0, hn1, hit2, hbw2, by rw [← HK.out, HR.out]⟩
                case measure => rw [iterPos_of hit2, HP.out]; omega
              | false =>
                go_wp2
                go_roundw
                case rel => exact ⟨k + 1, _, false, by omega, rfl, rfl, hs1, hs2, hit2, hbw2, by rw [← HA.out, HR.out]⟩
                case measure => rw [iterPos_of hit2, HP.out]; omega
      · have hnx : ∀ ty, (Instr.next (.pointer (some ⟨w.heap.size, 0, none⟩)) true ty).run Tryd.prog wr = _ := fun ty => Lib.run_next_any_at wr w.heap.size (S l) k ty hit hp'
        have hdb := decode_big (S l) k hp' (by rw [hget]; omega)
        generalize hr : (Utf8.decode (S l) k).1 = r at hnx hdb
        generalize hq : (Utf8.decode (S l) k).2 = q at hnx
        clear hr hget
        have hbw2 := Lib.below_iterAt hbw (k := w.heap.size) (Nat.le_refl _) (S l) (k + q)
        clear hq
        have HE : Hid _ := cparse_ne hp
        have HB : Hid _ := cp_bad (r := l.drop (k + 1)) (k := k) (n := n) (big := big) (c := c) (.inr (.inl (by omega)))
        have HX := HR.out
        rw [HB.out] at HX
        have HY : Hid _ := HX
        clear HX
        have h48 : ¬ (r : Int) < 48 := by omega
        go_wp2
        go_ret2
        exact ⟨ret2_eq (HE.out.trans HY.out.symm), hbw2⟩
    · have hnx : ∀ ty, (Instr.next (.pointer (some ⟨w.heap.size, 0, none⟩)) true ty).run Tryd.prog wr = _ := fun ty => Lib.run_next_end_at wr w.heap.size (S l) k ty hit (by rw [S_size]; exact hp)
      have : k = l.length := by omega
      subst this
      rw [List.drop_length, cpLoop_end] at hrun
      have HR : Hid _ := hrun
      clear hrun
      cases l with
      | nil =>
        go_wp2
        go_ret2
        exact ⟨rfl, hbw⟩
      | cons x r =>
        have hce : cparse (x :: r) = cpLoop (x :: r) 0 0 false := rfl
        have HE : Hid _ := hce
        clear hce
        cases big with
        | true =>
          go_wp2
          go_ret2
          exact ⟨ret2_eq (HE.out.trans HR.out.symm), hbw⟩
        | false =>
          go_wp2
          go_ret2
          exact ⟨ret2_eq (HE.out.trans HR.out.symm), hbw⟩
end Go.Proofs.YtnpndkmcgpaibaaDoor
