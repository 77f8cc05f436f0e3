/- Walks of the reference's small functions: tag, blank, digit, chapter 3's Parse and Text. -/
import Derived.Test.YtnpndkmcgpaibaaDoorG
import Derived.Test.YtnpndkmcgpaibaaDoorP
set_option linter.unusedVariables false
namespace Go.Proofs.YtnpndkmcgpaibaaDoor
open Go.RowKit Go.Sort

theorem retb {a b : Bool} (h : a = b) : Ending.returned (.bool a) = .returned (.bool b) := by rw [h]
theorem u8_beq (c d : UInt8) (n : Int) (hn : (d.toNat : Int) = n) : ((c.toNat : Int) == n) = (c == d) := by
  subst hn; exact u8_eq_int c d

theorem tag_any (c : UInt8) (w : World) : Calls Tryd.prog 35 #[.int .u8 c.toNat] w fun e w' => e = .returned (.bool (isTag c)) ∧ w = w' := by
  have e1 := u8_beq c 98 98 rfl
  have e2 := u8_beq c 111 111 rfl
  have e3 := u8_beq c 36 36 rfl
  have HI : Hid (isTag c = (c == 98 || c == 111 || c == 36)) := rfl
  generalize (c == 98) = b1 at *
  generalize (c == 111) = b2 at *
  generalize (c == 36) = b3 at *
  cases b1 <;> cases b2 <;> cases b3
  all_goals
    go_enter Tryd.func35, Tryd.ntmps35
    go_wp2
    go_ret
    exact ⟨retb (by rw [HI.out]; rfl), rfl⟩

theorem blank_any (c : UInt8) (w : World) : Calls Tryd.prog 39 #[.int .u8 c.toNat] w fun e w' => e = .returned (.bool (isBlank c)) ∧ w = w' := by
  have e1 := u8_beq c 32 32 rfl
  have e2 := u8_beq c 9 9 rfl
  have e3 := u8_beq c 10 10 rfl
  have e4 := u8_beq c 13 13 rfl
  have HI : Hid (isBlank c = (c == 32 || c == 9 || c == 10 || c == 13)) := rfl
  generalize (c == 32) = b1 at *
  generalize (c == 9) = b2 at *
  generalize (c == 10) = b3 at *
  generalize (c == 13) = b4 at *
  cases b1 <;> cases b2 <;> cases b3 <;> cases b4
  all_goals
    go_enter Tryd.func39, Tryd.ntmps39
    go_wp2
    go_ret
    exact ⟨retb (by rw [HI.out]; rfl), rfl⟩

theorem digit_any (c : UInt8) (w : World) : Calls Tryd.prog 40 #[.int .u8 c.toNat] w fun e w' => e = .returned (.bool (isDigit c)) ∧ w = w' := by
  by_cases h1 : (c.toNat : Int) < 48
  · have HI : Hid _ := dig_false (.inl h1)
    have h1' : ¬ 48 ≤ (c.toNat : Int) := by omega
    go_enter Tryd.func40, Tryd.ntmps40
    go_wp2
    go_ret
    exact ⟨retb (by rw [HI.out]), rfl⟩
  · by_cases h2 : (c.toNat : Int) ≤ 57
    · have HI : Hid _ := dig_true (by omega) h2
      have h1' : 48 ≤ (c.toNat : Int) := by omega
      go_enter Tryd.func40, Tryd.ntmps40
      go_wp2
      go_ret
      exact ⟨retb (by rw [HI.out]), rfl⟩
    · have HI : Hid _ := dig_false (c := c) (.inr (by omega))
      have h1' : 48 ≤ (c.toNat : Int) := by omega
      go_enter Tryd.func40, Tryd.ntmps40
      go_wp2
      go_ret
      exact ⟨retb (by rw [HI.out]), rfl⟩

theorem dec_small {n : Nat} (h : n < 10) : dec n = [UInt8.ofNat (48 + n)] := by rw [dec, Lib.decDigits, dif_pos h]
theorem dec_big {n : Nat} (h : ¬ n < 10) : dec n = dec (n / 10) ++ [UInt8.ofNat (48 + n % 10)] := by rw [dec, Lib.decDigits, dif_neg h]

/-- 'string([]byte{c})': one byte's text -/
theorem byte_string (w : World) (c : UInt8) (x : Int) (hx : (c.toNat : Int) = x) :
    (convert 41 9 (Value.slice (some { block := w.heap.size, off := 0 }) 1 1)).run Tryd.prog (w.alloc (Obj.cells #[Value.int IntKind.u8 x] 5)) = .ok (.string (S [c])) (w.alloc (Obj.cells #[Value.int IntKind.u8 x] 5)) := by
  have hc : (w.alloc (Obj.cells #[Value.int IntKind.u8 x] 5)).cell? ⟨w.heap.size, 0, none⟩ = some (.int .u8 x) := by
    rw [Lib.cell_of_heap (heap_alloc_new w _)]; rfl
  have := run_convert_bytes_back (P := Tryd.prog) (w.alloc (Obj.cells #[Value.int IntKind.u8 x] 5)) 41 9 5 ⟨w.heap.size, 0, none⟩ 1 [c] Tryd.underlying41 Tryd.underlying5 Tryd.underlying9 (by
    intro j hj
    have hj0 : j = 0 := by simpa using hj
    subst hj0
    show (w.alloc _).cell? ((⟨w.heap.size, 0, none⟩ : Addr).add 0) = _
    rw [show (⟨w.heap.size, 0, none⟩ : Addr).add 0 = ⟨w.heap.size, 0, none⟩ from rfl, hc, hx.symm]; rfl)
  exact this

set_option maxHeartbeats 1000000 in
set_option maxRecDepth 100000 in
theorem text03_any (f : Nat) : ∀ (n : Int) (w : World), 0 ≤ n → n ≤ 4611686018427387903 → n < f →
    Calls Tryd.prog 34 #[.int .i64 n] w fun e w' => e = .returned (.string (S (dec n.toNat))) ∧ Below w.heap.size w w' := by
  induction f with
  | zero => intro n w h0 h1 hf; omega
  | succ f ih =>
    intro n w h0 h1 hf
    have hm0 : 0 ≤ n % 10 := by omega
    have hm1 : n % 10 < 10 := by omega
    obtain ⟨d, hd⟩ : ∃ d, UInt8.ofNat (48 + n.toNat % 10) = d := ⟨_, rfl⟩
    have hdn : (d.toNat : Int) = 48 + n % 10 := by rw [← hd, UInt8.toNat_ofNat_of_lt' (by show _ < 256; omega)]; omega
    have hcv := byte_string w d (48 + n % 10) hdn
    by_cases hs : n < 10
    · have HD : Hid (dec n.toNat = [d]) := mkHid (by rw [dec_small (n := n.toNat) (by omega), ← hd, Nat.mod_eq_of_lt (by omega)])
      clear hd hdn ih
      go_enter Tryd.func34, Tryd.ntmps34
      go_wp2_with fail
      go_ret
      exact ⟨by rw [HD.out]; rfl, (Below.refl _ w).alloc (Nat.le_refl _) _⟩
    · have HD : Hid (dec n.toNat = dec (n / 10).toNat ++ [d]) := mkHid (by rw [dec_big (n := n.toNat) (by omega), ← hd]; congr 2; omega)
      have hdl := dec_len (n / 10).toNat 18 (by omega)
      have e1 := S_size (dec (n / 10).toNat)
      have e2 := S_size [d]
      have IH := Lib.hid ih
      clear ih hd hdn
      go_enter Tryd.func34, Tryd.ntmps34
      go_wp2_with fail
      refine (IH.out (n / 10) _ (by omega) (by omega) (by omega)).mono ?_
      rintro e w2 ⟨rfl, hb⟩
      go_wp2_with fail
      go_ret
      refine ⟨?_, ((Below.refl _ w).alloc (Nat.le_refl _) _).trans (hb.mono (by simp))⟩
      rw [HD.out, ← S_append]; rfl

theorem all_take (l : List UInt8) (k : Nat) (h : k < l.length) : (l.take (k + 1)).all isDigit = ((l.take k).all isDigit && isDigit l[k]) := by
  rw [List.take_succ_eq_append_getElem h, List.all_append]; simp
theorem all_no {l : List UInt8} {k : Nat} (h : k < l.length) (hd : isDigit l[k] = false) : l.all isDigit = false := by
  rw [Bool.eq_false_iff]; intro ha
  rw [List.all_eq_true] at ha
  have := ha l[k] (List.getElem_mem h)
  rw [hd] at this; cases this

set_option maxHeartbeats 2000000 in
set_option maxRecDepth 100000 in
theorem parse03_any (l : List UInt8) (w : World) (hl : l.length ≤ 4611686018427387904) :
    Calls Tryd.prog 41 #[.string (S l)] w fun e w' => e = .returned (.tuple #[.int .i64 (cparse l).1, .int .i64 (cparse l).2]) ∧ w = w' := by
  have hsz := S_size l
  have htl := S_toList l
  go_enter Tryd.func41, Tryd.ntmps41
  go_wp2
  go_loop [4] (fun i => ∃ k : Nat, k ≤ l.length ∧ i = .int .i64 k ∧ (l.take k).all isDigit = true) (fun i => l.length - (intOf i).toNat)
  case atStart => exact ⟨0, Nat.zero_le _, rfl, by simp⟩
  case round =>
    obtain ⟨k, hk, rfl, hall⟩ := hrel
    by_cases hp : k < l.length
    · have hp' : k < (S l).size := by rw [S_size]; exact hp
      obtain ⟨c, hc⟩ : ∃ c, l[k]'hp = c := ⟨_, rfl⟩
      have hget : ∀ h, (S l)[k]'h = c := fun h => (S_get l k h).trans hc
      have hat := all_take l k hp
      have hno : Hid (isDigit c = false → l.all isDigit = false) := mkHid (fun h => all_no hp (by rw [hc]; exact h))
      rw [hall, hc] at hat
      have HA : Hid _ := hat
      clear hat hc hall
      by_cases h1 : (c.toNat : Int) < 48
      · have HR : Hid (cparse l = (0, 20)) := mkHid (by rw [cparse_eq, rparse, if_pos (hno.out (dig_false (.inl h1)))])
        go_wp2
        go_ret2
        exact ⟨ret2_eq HR.out, rfl⟩
      · by_cases h2 : 57 < (c.toNat : Int)
        · have HR : Hid (cparse l = (0, 20)) := mkHid (by rw [cparse_eq, rparse, if_pos (hno.out (dig_false (.inr h2)))])
          go_wp2
          go_ret2
          exact ⟨ret2_eq HR.out, rfl⟩
        · have HB : Hid _ := dig_true (c := c) (by omega) (by omega)
          go_wp2
          go_round
          case rel => exact ⟨k + 1, by omega, by go_num, by rw [HA.out, HB.out]; rfl⟩
          case measure => simp [intOf]; omega
    · have : k = l.length := by omega
      subst this
      rw [List.take_length] at hall
      have HR : Hid (cparse l = if l = [] ∨ (1 < l.length ∧ l.head? = some 48) then (0, 20) else if 19 < l.length then (0, 21) else rpLoop l 0) := mkHid (by
        rw [cparse_eq, rparse, if_neg (by rw [hall]; simp)])
      have HALL : Hid _ := hall
      clear hall
      cases l with
      | nil =>
        go_wp2
        go_ret2
        exact ⟨rfl, rfl⟩
      | cons c r =>
        have hget0 : ∀ h, (S (c :: r))[0]'h = c := fun h => S_get (c :: r) 0 h
        have hlen0 : 0 < (c :: r).length := by simp
        have hLh : Hid ((c :: r).head? = some c) := rfl
        have hLn : Hid (c :: r ≠ []) := mkHid (by simp)
        have hLe : (c :: r).isEmpty = false := rfl
        generalize hL : c :: r = L at *
        have HLL := Lib.hid hL
        clear hL
        by_cases hbad : 1 < L.length ∧ c = 48
        · obtain ⟨h1, rfl⟩ := hbad
          have HX : Hid (cparse L = (0, 20)) := mkHid (by rw [HR.out, if_pos (.inr ⟨h1, hLh.out⟩)])
          have h1' : (1 : Int) < (L.length : Int) := by omega
          go_wp2
          go_ret2
          exact ⟨ret2_eq ((congrArg cparse HLL.out).trans HX.out), rfl⟩
        · have HN : Hid (cparse L = if 19 < L.length then (0, 21) else rpLoop L 0) := mkHid (by
            rw [HR.out, if_neg]
            rintro (h | ⟨h1, h2⟩)
            · exact hLn.out h
            · rw [hLh.out] at h2; exact hbad ⟨h1, by simpa using h2⟩)
          have hsplit : ((1 : Int) < (L.length : Int) ∧ ((c.toNat : Int) == 48) = false) ∨ ¬ (1 : Int) < (L.length : Int) := by
            by_cases h1 : 1 < L.length
            · left; refine ⟨by omega, ?_⟩
              rw [beq_eq_false_iff_ne]; intro h; exact hbad ⟨h1, UInt8.toNat_inj.1 (by show c.toNat = 48; omega)⟩
            · right; omega
          clear hbad HR
          by_cases hbig : 19 < L.length
          · have HX : Hid (cparse L = (0, 21)) := mkHid (by rw [HN.out, if_pos hbig])
            rcases hsplit with ⟨h1, h2⟩ | h1
            · go_wp2
              go_ret2
              exact ⟨ret2_eq ((congrArg cparse HLL.out).trans HX.out), rfl⟩
            · omega
          · have HX : Hid (cparse L = rpLoop L 0) := mkHid (by rw [HN.out, if_neg hbig])
            clear HN
            rcases hsplit with ⟨h1, h2⟩ | h1
            all_goals
              go_wp2
              go_loop [5, 6] (fun vn i => ∃ (k : Nat) (n : Int), k ≤ L.length ∧ i = .int .i64 k ∧ vn = .int .i64 n ∧ 0 ≤ n ∧ n ≤ 4611686018427387903 ∧ rpLoop (L.drop k) n = rpLoop L 0) (fun _ i => L.length - (intOf i).toNat)
              case atStart => exact ⟨0, 0, Nat.zero_le _, rfl, rfl, by omega, by omega, by simp⟩
              case round =>
                obtain ⟨k, n, hk, rfl, rfl, hn0, hn1, hrun⟩ := hrel
                by_cases hp : k < L.length
                · have hp' : k < (S L).size := by rw [S_size]; exact hp
                  obtain ⟨d, hd⟩ : ∃ d, L[k]'hp = d := ⟨_, rfl⟩
                  have hget : ∀ h, (S L)[k]'h = d := fun h => (S_get L k h).trans hd
                  have hdig : isDigit d = true := by rw [← hd]; exact (List.all_eq_true.1 HALL.out) _ (List.getElem_mem hp)
                  have hb := dig_bounds hdig
                  have hb1 := hb.1
                  have hb2 := hb.2
                  rw [List.drop_eq_getElem_cons hp, hd, rpLoop] at hrun
                  have HRU : Hid _ := hrun
                  clear hrun hd hdig hb
                  by_cases hov : (4611686018427387903 - ((d.toNat : Int) - 48)) / 10 < n
                  · have HY : Hid (cparse L = (0, 21)) := mkHid (by rw [HX.out, ← HRU.out, if_pos (by unfold maxCount; exact hov)])
                    go_wp2
                    go_ret2
                    exact ⟨ret2_eq ((congrArg cparse HLL.out).trans HY.out), rfl⟩
                  · have hs1 : 0 ≤ 10 * n + ((d.toNat : Int) - 48) := by omega
                    have hs2 : 10 * n + ((d.toNat : Int) - 48) ≤ 4611686018427387903 := by omega
                    have HY : Hid (rpLoop (L.drop (k + 1)) (10 * n + ((d.toNat : Int) - 48)) = rpLoop L 0) := mkHid (by rw [← HRU.out, if_neg (by unfold maxCount; exact hov)])
                    go_wp2
                    go_round
                    case rel => exact ⟨k + 1, _, by omega, by go_num, rfl, hs1, hs2, HY.out⟩
                    case measure => simp [intOf]; omega
                · have : k = L.length := by omega
                  subst this
                  rw [List.drop_length, rpLoop] at hrun
                  have HY : Hid (cparse L = (n, 0)) := mkHid (by rw [HX.out, ← hrun])
                  clear hrun
                  go_wp2
                  go_ret2
                  exact ⟨ret2_eq ((congrArg cparse HLL.out).trans HY.out), rfl⟩
end Go.Proofs.YtnpndkmcgpaibaaDoor
