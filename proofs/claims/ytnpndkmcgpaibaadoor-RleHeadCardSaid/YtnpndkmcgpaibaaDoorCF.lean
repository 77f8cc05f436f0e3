/- Equal lists of cells, by the reference. -/
import Derived.Test.YtnpndkmcgpaibaaDoorCE
set_option linter.unusedVariables false
namespace Go.Proofs.YtnpndkmcgpaibaaDoor
open Go.RowKit Go.Sort
attribute [local go_sem high] eqA89

theorem ce_beq (x y : Int × Int) : decide (x = y) = (x.1 == y.1 && x.2 == y.2) := by
  obtain ⟨a, b⟩ := x
  obtain ⟨a', b'⟩ := y
  rw [Bool.eq_iff_iff]; simp
theorem ce_step (l l' : List (Int × Int)) (k : Nat) (h : k < l.length) (h' : k < l'.length) (hq : l.take k = l'.take k) : l.take (k + 1) = l'.take (k + 1) ↔ l[k] = l'[k] := by
  have e1 := List.take_succ_eq_append_getElem h
  have e2 := List.take_succ_eq_append_getElem h'
  rw [e1, e2, hq]
  constructor
  · intro h3; exact (List.cons.inj (List.append_cancel_left h3)).1
  · intro h3; rw [h3]

set_option maxHeartbeats 4000000 in
set_option maxRecDepth 100000 in
theorem csame_walk (v v' : Value) (l l' : List (Int × Int)) (w : World) (hl : l.length ≤ 4611686018427387904) (hl' : l'.length ≤ 4611686018427387904) (hv : CRow w v l) (hv' : CRow w v' l') :
    Calls Tryd.prog 29 #[v, v'] w fun e w' => e = .returned (.bool (decide (l = l'))) ∧ ∃ n, w' = w.drewN n := by
  obtain ⟨a, cap, rfl, hcs⟩ := crow_at hv
  obtain ⟨a', cap', rfl, hcs'⟩ := crow_at hv'
  have HC : Hid _ := hcs
  have HC' : Hid _ := hcs'
  clear hcs hcs' hv hv'
  by_cases hlen : l.length = l'.length
  · have HL := Lib.hid hlen
    rw [← hlen]
    clear hlen
    go_enter Tryd.func29, Tryd.ntmps29
    go_wp2
    go_loopw [5] (fun i wr => ∃ (k : Nat) (n : Nat), k ≤ l.length ∧ i = .int .i64 k ∧ wr = w.drewN n ∧ l.take k = l'.take k) (fun i _ => l.length - (intOf i).toNat)
    case atStart => exact ⟨0, 0, Nat.zero_le _, rfl, rfl, rfl⟩
    case round =>
      obtain ⟨k, n, hk, rfl, rfl, heq⟩ := hrel
      have HQ := Lib.hid heq
      clear heq
      by_cases hlt : k < l.length
      · obtain ⟨b, o, rfl, -, q0, q1⟩ := HC.out k hlt
        obtain ⟨b', o', rfl, -, q0', q1'⟩ := HC'.out k (by rw [← HL.out]; exact hlt)
        obtain ⟨x, hx⟩ : ∃ x, l[k]'hlt = x := ⟨_, rfl⟩
        obtain ⟨y, hy⟩ : ∃ y, l'[k]'(by rw [← HL.out]; exact hlt) = y := ⟨_, rfl⟩
        rw [hx] at q0 q1
        rw [hy] at q0' q1'
        have HX := Lib.hid hx
        have HY := Lib.hid hy
        have HT := Lib.hid (ce_step l l' k hlt (by rw [← HL.out]; exact hlt) HQ.out)
        clear hx hy
        have hxy : Hid (decide (x = y) = (x.1 == y.1 && x.2 == y.2)) := mkHid (ce_beq x y)
        generalize hb0 : (x.1 == y.1) = b0 at *
        generalize hb1 : (x.2 == y.2) = b1 at *
        go_wp2_with fail
        go_quiet (fail)
        have hr : (!b0 || !b1) = !decide (x = y) := by rw [hxy.out]; cases b0 <;> cases b1 <;> rfl
        rw [hr]
        have hdd : (w.drewN n).drewN nq = w.drewN (n + nq) := by show World.mk _ _ _ _ _ = World.mk _ _ _ _ _; simp [World.drewN, Nat.add_assoc]
        rw [hdd]
        clear hr hdd hxy hb0 hb1 q0 q1 q0' q1'
        by_cases hxy : x = y
        · have hTT : Hid _ := HT.out.2 (by rw [HX.out, HY.out]; exact hxy)
          have hd1 : decide (x = y) = true := by simpa using hxy
          rw [hd1]
          clear hd1 hxy
          go_wp2
          go_roundw
          case rel => exact ⟨k + 1, n + nq, by omega, by go_num, rfl, hTT.out⟩
          case measure => simp [intOf]; omega
        · have hF : Hid (decide (l = l') = false) := mkHid (by
            rw [decide_eq_false_iff_not]; intro h; apply hxy; rw [← HX.out, ← HY.out]; simp only [h])
          have hd1 : decide (x = y) = false := by simpa using hxy
          rw [hd1]
          clear hd1 hxy
          go_wp2
          go_ret
          exact ⟨retb hF.out.symm, n + nq, rfl⟩
      · have hE : Hid (decide (l = l') = true) := mkHid (by
          rw [decide_eq_true_iff]
          have h1 := HQ.out
          rw [List.take_of_length_le (by omega), List.take_of_length_le (by rw [← HL.out]; omega)] at h1
          exact h1)
        go_wp2
        go_ret
        exact ⟨retb hE.out.symm, n, rfl⟩
  · have HE : Hid (decide (l = l') = false) := mkHid (by simp; intro h; exact hlen (by rw [h]))
    have h1 : (l.length == l'.length) = false := by rw [beq_eq_false_iff_ne]; exact hlen
    have h2 : (((l.length : Nat) : Int) == ((l'.length : Nat) : Int)) = false := by rw [beq_eq_false_iff_ne]; omega
    have h3 : (((l.length : Nat) : Int) != ((l'.length : Nat) : Int)) = true := by rw [bne_iff_ne]; omega
    clear hlen
    go_enter Tryd.func29, Tryd.ntmps29
    go_wp2
    go_ret
    exact ⟨retb HE.out.symm, 0, rfl⟩
theorem pick26_any (c n : Int) (w : World) (h0 : -9223372036854775808 ≤ c) (h1 : c ≤ 9223372036854775807) (hn : 0 < n) (hn1 : n ≤ 9223372036854775807) :
    Calls Tryd.prog 26 #[.int .i64 c, .int .i64 n] w fun e w' => e = .returned (.int .i64 (pickI c n)) ∧ w = w' := by
  have hnz : (n == 0) = false := by rw [beq_eq_false_iff_ne]; omega
  by_cases hc : c < 0
  · have HE : Hid (pickI c n = -(c + 1).tmod n) := mkHid (by
      unfold pickI; rw [if_pos hc, ← Int.neg_tmod, Int.tmod_eq_emod_of_nonneg (by omega)])
    go_enter Tryd.func26, Tryd.ntmps26
    go_wp2
    go_ret
    exact ⟨by rw [HE.out]; rfl, rfl⟩
  · have HE : Hid (pickI c n = c % n) := mkHid (by unfold pickI; rw [if_neg hc])
    go_enter Tryd.func26, Tryd.ntmps26
    go_wp2
    go_ret
    exact ⟨by rw [HE.out]; rfl, rfl⟩

theorem pick62_any (c n : Int) (w : World) (h0 : -9223372036854775808 ≤ c) (h1 : c ≤ 9223372036854775807) (hn : 0 < n) (hn1 : n ≤ 9223372036854775807) :
    Calls Tryd.prog 62 #[.int .i64 c, .int .i64 n] w fun e w' => e = .returned (.int .i64 (pickI c n)) ∧ w = w' := by
  have hnz : (n == 0) = false := by rw [beq_eq_false_iff_ne]; omega
  by_cases hc : c < 0
  · have HE : Hid (pickI c n = -(c + 1).tmod n) := mkHid (by
      unfold pickI; rw [if_pos hc, ← Int.neg_tmod, Int.tmod_eq_emod_of_nonneg (by omega)])
    go_enter Tryd.func62, Tryd.ntmps62
    go_wp2
    go_ret
    exact ⟨by rw [HE.out]; rfl, rfl⟩
  · have HE : Hid (pickI c n = c % n) := mkHid (by unfold pickI; rw [if_neg hc])
    go_enter Tryd.func62, Tryd.ntmps62
    go_wp2
    go_ret
    exact ⟨by rw [HE.out]; rfl, rfl⟩

end Go.Proofs.YtnpndkmcgpaibaaDoor
