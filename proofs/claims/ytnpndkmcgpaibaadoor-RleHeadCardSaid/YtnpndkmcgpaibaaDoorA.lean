/- Walks of the token package. -/
import Derived.Test.YtnpndkmcgpaibaaDoorBld
import Derived.Test.YtnpndkmcgpaibaaDoorT
import Derived.WalkLawsBesides
import Derived.WalkSpells
import Derived.Outline
import Derived.Lib.Hide
import Derived.BigRegion
import Derived.Deep.LoopGhost
set_option linter.unusedVariables false
namespace Go.Proofs.YtnpndkmcgpaibaaDoor
open Go.RowKit

/-- what a byte's rune is held against: the set's runes are single bytes -/
theorem decode_big (s : ByteArray) (pos : Nat) (h : pos < s.size) (ha : 128 ≤ (s[pos]'h).toNat) : 128 ≤ (Utf8.decode s pos).1 := by
  have e : s.get! (pos + 0) = s[pos]'h := by
    show s.get! pos = _
    simp [ByteArray.get!, getElem!_pos, h]
    rfl
  simp only [Utf8.decode, e]
  rw [if_neg (by omega)]
  simp only [Utf8.runeError]
  repeat' split
  all_goals simp_all <;> omega


def has (set : List UInt8) (c : UInt8) : Bool := set.contains c
theorem contains_snoc (set : List UInt8) (j : Nat) (h : j < set.length) (c : UInt8) : has (set.take (j + 1)) c = (has (set.take j) c || c == set[j]) := by
  unfold has
  rw [List.take_succ_eq_append_getElem h, List.contains_append]
  simp only [List.contains_cons, List.contains_nil, Bool.or_false]

theorem has_big (set : List UInt8) (hasc : ∀ (j : Nat) (h : j < set.length), (set[j]).toNat < 128) {c : UInt8} (h : 128 ≤ c.toNat) : has set c = false := by
  unfold has
  rw [Bool.eq_false_iff]
  intro hc
  rw [List.contains_iff_mem] at hc
  obtain ⟨j, hj, he⟩ := List.getElem_of_mem hc
  have := hasc j hj
  rw [he] at this
  omega

theorem runLen_step (p : UInt8 → Bool) (l : List UInt8) (k : Nat) (h : k < l.length) : runLen p (l.drop k) = if p l[k] = true then runLen p (l.drop (k + 1)) + 1 else 0 := by
  rw [List.drop_eq_getElem_cons h]
  split
  · rename_i hp; rw [runLen_cons_true _ hp]
  · rename_i hp; rw [runLen_cons_false _ (by simpa using hp)]

theorem u8_eq_int (a b : UInt8) : (((a.toNat : Int)) == (b.toNat : Int)) = (a == b) := by
  rw [Bool.eq_iff_iff, beq_iff_eq, beq_iff_eq, ← UInt8.toNat_inj]; omega

set_option maxHeartbeats 2000000 in
theorem cutLeft_any (l set : List UInt8) (w : World) (hl : l.length ≤ 4611686018427387904) (hset : set.length ≤ 100) (hasc : ∀ (j : Nat) (h : j < set.length), (set[j]).toNat < 128) :
    Calls Tryd.prog 63 #[.string (S l), .string (S set)] w fun e w' => e = .returned (.string (S (l.drop (runLen (fun c => has set c) l)))) ∧ Below w.heap.size w w' := by
  have hsz := S_size l
  have hsz2 := S_size set
  go_enter Tryd.func63, Tryd.ntmps63
  go_wp2
  go_loopw [] (fun wr => ∃ k : Nat, k ≤ l.length ∧ wr.heap[w.heap.size]? = some (.stringIter (S l) k) ∧ Below w.heap.size w wr ∧ k + runLen (fun c => has set c) (l.drop k) = runLen (fun c => has set c) l) (fun wr => l.length - wr.iterPos w.heap.size)
  case atStart =>
    exact ⟨0, Nat.zero_le _, World.iter_heap _ _ _, (Below.refl _ w).alloc (Nat.le_refl _) _, by simp⟩
  case round =>
    obtain ⟨k, hk, hit, hbw, hrun⟩ := hrel
    have hlt : w.heap.size < wr.heap.size := (Array.getElem?_eq_some_iff.1 hit).1
    by_cases hp : k < l.length
    · have hp' : k < (S l).size := by rw [S_size]; exact hp
      obtain ⟨c, hc⟩ : ∃ c, l[k]'hp = c := ⟨_, rfl⟩
      have hget : (S l)[k]'hp' = c := (S_get l k hp').trans hc
      have hstep := runLen_step (fun c => has set c) l k hp
      rw [hc] at hstep
      have HS : Hid _ := hstep
      have HR : Hid _ := hrun
      have HP : Hid _ := iterPos_of hit
      clear hstep hrun hc
      by_cases ha : c.toNat < 128
      · have hnx : ∀ ty, (Instr.next (.pointer (some ⟨w.heap.size, 0, none⟩)) true ty).run Tryd.prog wr = _ := fun ty => Lib.run_next_ascii_at wr w.heap.size (S l) k ty hit hp' (by rw [hget]; exact ha)
        rw [hget] at hnx
        clear hget
        have hit2 := Lib.iterAt_heap wr w.heap.size (S l) k (k + 1) hit
        have hbw2 := Lib.below_iterAt hbw (k := w.heap.size) (Nat.le_refl _) (S l) (k + 1)
        have hss := Lib.iterAt_size wr w.heap.size (S l) (k + 1)
        go_wp2
        obtain ⟨wo, hwo⟩ : ∃ wo : World, wo = wr.iterAt w.heap.size (S l) (k + 1) := ⟨_, rfl⟩
        rw [← hwo] at hit2 hbw2 hss ⊢
        rw [← hss]
        clear hnx hit hbw hwo
        have hlt2 : w.heap.size < wo.heap.size := by rw [hss]; exact hlt
        clear hss
        go_loopw [7] (fun b wi => ∃ j : Nat, j ≤ set.length ∧ b = .bool (has (set.take j) c) ∧ wi.heap[wo.heap.size]? = some (.stringIter (S set) j) ∧ Below wo.heap.size wo wi) (fun _ wi => set.length - wi.iterPos wo.heap.size)
        case atStart => exact ⟨0, Nat.zero_le _, rfl, World.iter_heap _ _ _, (Below.refl _ _).alloc (Nat.le_refl _) _⟩
        case round =>
          obtain ⟨j, hj, rfl, hjt, hjb⟩ := hrel
          by_cases hq : j < set.length
          · have hq' : j < (S set).size := by rw [S_size]; exact hq
            obtain ⟨d, hd⟩ : ∃ d, set[j]'hq = d := ⟨_, rfl⟩
            have hgetj : (S set)[j]'hq' = d := (S_get set j hq').trans hd
            have hnx : ∀ ty, (Instr.next (.pointer (some ⟨wo.heap.size, 0, none⟩)) true ty).run Tryd.prog wr = _ := fun ty => Lib.run_next_ascii_at wr wo.heap.size (S set) j ty hjt hq' (by rw [hgetj, ← hd]; exact hasc j hq)
            rw [hgetj] at hnx
            have hjt2 := Lib.iterAt_heap wr wo.heap.size (S set) j (j + 1) hjt
            have hjb2 := Lib.below_iterAt hjb (k := wo.heap.size) (Nat.le_refl _) (S set) (j + 1)
            have hcs := contains_snoc set j hq c
            rw [hd] at hcs
            have hu := u8_eq_int c d
            clear hgetj hd
            cases hb : has (set.take j) c with
            | true =>
              rw [hb] at hcs
              have HC : Hid _ := hcs
              clear hcs hb hu
              go_wp2
              go_roundw
              case rel => exact ⟨j + 1, by omega, by rw [HC.out]; rfl, hjt2, hjb2⟩
              case measure => rw [iterPos_of hjt, iterPos_of hjt2]; omega
            | false =>
              rw [hb] at hcs
              have HC : Hid _ := hcs
              clear hcs hb
              cases he : (c == d) with
              | true =>
                rw [he] at hu
                have HE : Hid _ := he
                clear he
                go_wp2
                go_roundw
                case rel => exact ⟨j + 1, by omega, by rw [HC.out, HE.out]; rfl, hjt2, hjb2⟩
                case measure => rw [iterPos_of hjt, iterPos_of hjt2]; omega
              | false =>
                rw [he] at hu
                have HE : Hid _ := he
                clear he
                go_wp2
                go_roundw
                case rel => exact ⟨j + 1, by omega, by rw [HC.out, HE.out]; rfl, hjt2, hjb2⟩
                case measure => rw [iterPos_of hjt, iterPos_of hjt2]; omega
          · have hnx : ∀ ty, (Instr.next (.pointer (some ⟨wo.heap.size, 0, none⟩)) true ty).run Tryd.prog wr = _ := fun ty => Lib.run_next_end_at wr wo.heap.size (S set) j ty hjt (by rw [S_size]; exact hq)
            have hjl : j = set.length := by omega
            subst hjl
            have htake : set.take set.length = set := by simp
            have hbw3 : Below w.heap.size w wr := hbw2.trans (hjb.mono (by omega))
            have hit3 : wr.heap[w.heap.size]? = some (.stringIter (S l) (k + 1)) := (hjb.block _ hlt2).trans hit2
            cases hb : has set c with
            | true =>
              have hb2 : has (set.take set.length) c = true := by rw [htake]; exact hb
              clear htake
              have HB : Hid _ := hb
              go_wp2
              go_roundw
              case rel =>
                refine ⟨k + 1, by omega, hit3, hbw3, ?_⟩
                have h1 := HR.out; have h2 := HS.out
                rw [if_pos HB.out] at h2
                omega
              case measure => rw [iterPos_of hit3, HP.out]; omega
            | false =>
              have hb2 : has (set.take set.length) c = false := by rw [htake]; exact hb
              clear htake
              have HB : Hid _ := hb
              go_wp2
              go_ret
              have h1 := HR.out; have h2 := HS.out
              rw [if_neg (by rw [HB.out]; simp)] at h2
              refine ⟨?_, hbw3⟩
              rw [S_extract, List.take_length, show runLen (fun c => has set c) l = k from by omega]; rfl
      · have hbig : has set c = false := has_big set hasc (by omega)
        have hnx : ∀ ty, (Instr.next (.pointer (some ⟨w.heap.size, 0, none⟩)) true ty).run Tryd.prog wr = _ := fun ty => Lib.run_next_any_at wr w.heap.size (S l) k ty hit hp'
        have hdb := decode_big (S l) k hp' (by rw [hget]; omega)
        generalize hr : (Utf8.decode (S l) k).1 = r at hnx hdb
        generalize hq : (Utf8.decode (S l) k).2 = q at hnx
        clear hr hget
        have hit2 := Lib.iterAt_heap wr w.heap.size (S l) k (k + q) hit
        have hbw2 := Lib.below_iterAt hbw (k := w.heap.size) (Nat.le_refl _) (S l) (k + q)
        have hss := Lib.iterAt_size wr w.heap.size (S l) (k + q)
        clear hq
        have HB : Hid _ := hbig
        clear hbig
        go_wp2
        obtain ⟨wo, hwo⟩ : ∃ wo : World, wo = wr.iterAt w.heap.size (S l) (k + q) := ⟨_, rfl⟩
        rw [← hwo] at hit2 hbw2 hss ⊢
        rw [← hss]
        clear hnx hit hbw hwo
        have hlt2 : w.heap.size < wo.heap.size := by rw [hss]; exact hlt
        clear hss
        go_loopw [7] (fun b wi => ∃ j : Nat, j ≤ set.length ∧ b = .bool false ∧ wi.heap[wo.heap.size]? = some (.stringIter (S set) j) ∧ Below wo.heap.size wo wi) (fun _ wi => set.length - wi.iterPos wo.heap.size)
        case atStart => exact ⟨0, Nat.zero_le _, rfl, World.iter_heap _ _ _, (Below.refl _ _).alloc (Nat.le_refl _) _⟩
        case round =>
          obtain ⟨j, hj, rfl, hjt, hjb⟩ := hrel
          by_cases hq : j < set.length
          · have hq' : j < (S set).size := by rw [S_size]; exact hq
            obtain ⟨d, hd⟩ : ∃ d, set[j]'hq = d := ⟨_, rfl⟩
            have hgetj : (S set)[j]'hq' = d := (S_get set j hq').trans hd
            have hd128 : d.toNat < 128 := by rw [← hd]; exact hasc j hq
            have hnx : ∀ ty, (Instr.next (.pointer (some ⟨wo.heap.size, 0, none⟩)) true ty).run Tryd.prog wr = _ := fun ty => Lib.run_next_ascii_at wr wo.heap.size (S set) j ty hjt hq' (by rw [hgetj]; exact hd128)
            rw [hgetj] at hnx
            have hjt2 := Lib.iterAt_heap wr wo.heap.size (S set) j (j + 1) hjt
            have hjb2 := Lib.below_iterAt hjb (k := wo.heap.size) (Nat.le_refl _) (S set) (j + 1)
            have hne : (((r : Nat) : Int) == (d.toNat : Int)) = false := by rw [beq_eq_false_iff_ne]; omega
            clear hgetj hd
            go_wp2
            go_roundw
            case rel => exact ⟨j + 1, by omega, rfl, hjt2, hjb2⟩
            case measure => rw [iterPos_of hjt, iterPos_of hjt2]; omega
          · have hnx : ∀ ty, (Instr.next (.pointer (some ⟨wo.heap.size, 0, none⟩)) true ty).run Tryd.prog wr = _ := fun ty => Lib.run_next_end_at wr wo.heap.size (S set) j ty hjt (by rw [S_size]; exact hq)
            have hbw3 : Below w.heap.size w wr := hbw2.trans (hjb.mono (by omega))
            go_wp2
            go_ret
            have h1 := HR.out; have h2 := HS.out
            rw [if_neg (by rw [HB.out]; simp)] at h2
            refine ⟨?_, hbw3⟩
            rw [S_extract, List.take_length, show runLen (fun c => has set c) l = k from by omega]; rfl
    · have hnx : ∀ ty, (Instr.next (.pointer (some ⟨w.heap.size, 0, none⟩)) true ty).run Tryd.prog wr = _ := fun ty => Lib.run_next_end_at wr w.heap.size (S l) k ty hit (by rw [S_size]; exact hp)
      go_wp2
      go_ret
      have : k = l.length := by omega
      subst this
      refine ⟨?_, hbw⟩
      rw [List.drop_length, runLen_nil, Nat.add_zero] at hrun
      rw [← hrun, List.drop_length]
      rfl
end Go.Proofs.YtnpndkmcgpaibaaDoor
