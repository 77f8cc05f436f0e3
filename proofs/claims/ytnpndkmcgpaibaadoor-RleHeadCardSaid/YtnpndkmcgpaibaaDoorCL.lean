/- put of the program's writer walked. -/
import Derived.Test.YtnpndkmcgpaibaaDoorCK
import Derived.Deep.AppendLies
set_option linter.unusedVariables false
namespace Go.Proofs.YtnpndkmcgpaibaaDoor
open Go.RowKit Go.Sort

/-- what a writer's put leaves as it was -/
structure KeptW (w w' : World) (wb : Nat) (v v' : Value) : Prop where
  os : w'.os = w.os
  tape : w'.tape = w.tape
  output : w'.output = w.output
  size : w.heap.size ≤ w'.heap.size
  block : ∀ k, k < w.heap.size → k ≠ wb → v.ownBlock ≠ some k → w'.heap[k]? = w.heap[k]?
  row : v'.ownBlock = v.ownBlock ∨ ∃ g, v'.ownBlock = some g ∧ w.heap.size ≤ g
theorem KeptW.refl (w : World) (wb : Nat) (v : Value) : KeptW w w wb v v := ⟨rfl, rfl, rfl, Nat.le_refl _, fun _ _ _ _ => rfl, .inl rfl⟩
theorem KeptW.below {w w' : World} {wb : Nat} {v v' : Value} (h : KeptW w w' wb v v') (hw : wb ≤ w.heap.size) (hv : ∀ k, v.ownBlock = some k → wb + 1 ≤ k) : Below wb w w' :=
  ⟨h.os, h.tape, h.output, h.size, fun k hk => h.block k (by omega) (by omega) (fun e => by have := hv k e; omega)⟩
theorem KeptW.append {w w4 : World} {wb : Nat} {v v' : Value} {o : Obj} (h : (w.alloc o).grownBy w4 v.ownBlock) (hr : v'.ownBlock = v.ownBlock ∨ ∃ g, v'.ownBlock = some g ∧ w.heap.size ≤ g) : KeptW w w4 wb v v' :=
  ⟨h.os, h.tape, h.output, Nat.le_trans (by simp) h.size, fun k hk _ hv => (h.block k (by simp; omega) (fun e => hv e.symm)).trans (Below.heap_alloc w o k hk), hr⟩
theorem KeptW.set {w w4 : World} {wb : Nat} {v v' u : Value} (h : KeptW w w4 wb v v') : KeptW w (w4.setCell ⟨wb, 0, none⟩ u) wb v v' :=
  have hs : Below 0 w4 (w4.setCell ⟨wb, 0, none⟩ u) := (Below.refl 0 w4).setCell (Nat.zero_le _) u
  ⟨hs.os.trans h.os, hs.tape.trans h.tape, hs.output.trans h.output, Nat.le_trans h.size hs.size, fun k hk hb hv => (Below.heap_setCell w4 ⟨wb, 0, none⟩ u k hb).trans (h.block k hk hb hv), h.row⟩
theorem owns_set_low {w : World} {base b sz n : Nat} {E : TypeId} {v u : Value} {xs : List Value} (h : w.ownsRow base E sz v n xs) (hb : b < base) : (w.setCell ⟨b, 0, none⟩ u).ownsRow base E sz v n xs := by
  refine ⟨h.1, ?_⟩
  rcases h.2 with h2 | ⟨g, cap, cur, hv, hg, hh, r⟩
  · exact .inl h2
  · exact .inr ⟨g, cap, cur, hv, hg, (Below.heap_setCell w ⟨b, 0, none⟩ u g (by show g ≠ b; omega)).trans hh, r⟩
theorem KeptW.stored {w w' : World} {wb g : Nat} {v : Value} (h : w.grownBy w' (some g)) (hg : v.ownBlock = some g) : KeptW w w' wb v v :=
  ⟨h.os, h.tape, h.output, h.size, fun k hk _ hne => h.block k hk (fun e => hne (by rw [hg, e])), .inl rfl⟩
theorem one_cell (w : World) (b : Nat) (e : TypeId) (u : Value) (h : w.heap[b]? = some (.cells #[u] e (0, 0))) : w.cell? ⟨b, 0, none⟩ = some u ∧ w.frozen? ⟨b, 0, none⟩ = false :=
  ⟨cell_of_row w b 0 _ e (0, 0) h, frozen_of_row w b 0 _ e h⟩

set_option maxHeartbeats 4000000 in
set_option maxRecDepth 100000 in
theorem wput_any (v : Value) (l : List It) (t : UInt8) (n : Int) (wb : Nat) (w : World) (hl : l.length ≤ 1000000) (hwb : w.heap[wb]? = some (.cells #[v] 93 (0, 0))) (hown : w.ownsRow (wb + 1) 37 3 v l.length (itCells l))
    (hn0 : -4611686018427387904 ≤ n) (hn1 : n ≤ 4611686018427387904) (hz : ∀ z ∈ l, -4611686018427387904 ≤ z.n ∧ z.n < 4611686018427387904) :
    Calls Tryd.prog 50 #[.pointer (some ⟨wb, 0, none⟩), .int .u8 t.toNat, .int .i64 n] w fun e w' => e = .returned (.tuple #[]) ∧ ∃ v', w'.heap[wb]? = some (.cells #[v'] 93 (0, 0)) ∧
      w'.ownsRow (wb + 1) 37 3 v' (putIt l t n).length (itCells (putIt l t n)) ∧ KeptW w w' wb v v' := by
  obtain ⟨i0, hi0, hz0, hz1, hz2⟩ := info_parts infoItem
  have hwbl : wb < w.heap.size := (Array.getElem?_eq_some_iff.1 hwb).1
  obtain ⟨wc, wf⟩ := one_cell _ _ _ _ hwb
  by_cases h0 : n = 0
  · subst h0
    have HE := Lib.hid (putIt_zero l t)
    obtain ⟨a, cap, rfl⟩ := owns_slice hown
    go_enter Tryd.func50, Tryd.ntmps50
    go_wp2_with fail
    go_end0
    rw [HE.out]
    exact ⟨rfl, _, hwb, hown, KeptW.refl _ _ _⟩
  · have h0b : (n == 0) = false := by rw [beq_eq_false_iff_ne]; exact h0
    by_cases he : l = []
    · subst he
      have HE := Lib.hid (putIt_nil (t := t) h0)
      clear h0
      obtain ⟨a, cap, rfl⟩ := owns_slice hown
      have hownV := hown
      go_enter Tryd.func50, Tryd.ntmps50
      go_wp2_with (at_builtin; refine wpList_append_lies _ rfl _ _ 22 rfl (wb + 1) 37 i0 (.agg #[.int .u8 0, .int .i64 0, .int .i64 0]) 3 24 Tryd.underlying22 hi0 hz0 hz1 hz2 rfl (by decide) _ _ _ rfl (hownV.alloc _) ⟨w.heap.size, 0, none⟩ 1 1 (itCell ⟨t, n, 0⟩) rfl rfl ?c1 ?c2 Nat.one_pos ?c3 ?c4 ?c5 _ rfl ?_)
      case c1 => first | exact fun jj u hj => new_cells w (itCell ⟨t, n, 0⟩) 37 jj u hj | exact fun jj u hj => hj
      case c2 => intro u hu; simp [itCell] at hu; rcases hu with rfl | rfl | rfl <;> rfl
      case c3 => unfold maxLen; (first | omega | simp)
      case c4 => (first | omega | simp)
      case c5 => simp; omega
      intro g2 cap2 w4 hown' hgrow hat hlt4
      have hown4 := hownV.alloc (Obj.cells #[Value.int IntKind.u8 t.toNat, Value.int IntKind.i64 n, Value.int IntKind.i64 0] 37)
      have hwb4 : w4.heap[wb]? = some (.cells #[.slice a 0 cap] 93 (0, 0)) := (hgrow.block wb (by simp; omega) (fun e => by have := (hownV.lt wb e.symm).1; omega)).trans ((Below.heap_alloc w _ wb hwbl).trans hwb)
      obtain ⟨wc4, wf4⟩ := one_cell _ _ _ _ hwb4
      have hown5 : w4.ownsRow (wb + 1) 37 3 (.slice (some ⟨g2, 0, none⟩) (0 + 1) cap2) ([] ++ [(⟨t, n, 0⟩ : It)]).length (itCells ([] ++ [⟨t, n, 0⟩])) := by
        rw [itCells_append, List.length_append]; simpa [itCells] using hown'
      have hk4 : KeptW w w4 wb (.slice a 0 cap) (.slice (some ⟨g2, 0, none⟩) (0 + 1) cap2) := KeptW.append hgrow (hat.imp (fun h => h.symm) (fun h => ⟨_, rfl, by rw [h]; simp⟩))
      clear hown' hgrow hown4 hown hownV wc wf
      go_wp2_with fail
      go_end0
      rw [HE.out]
      exact ⟨rfl, _, heap_setCell_same _ wb 0 _ 93 _ hwb4, owns_set_low hown5 (Nat.lt_succ_self wb), hk4.set⟩
    · obtain ⟨d, z, rfl⟩ := list_snoc l he
      have hzz := hz z (by simp)
      clear hz he
      have hdl : (d ++ [z]).length = d.length + 1 := by simp
      rcases hown.2 with ⟨rfl, h1⟩ | ⟨g, cap, cur, rfl, hbg, hh, hc, hmx, hs, ht⟩
      · omega
      · have hgl : g < w.heap.size := (Array.getElem?_eq_some_iff.1 hh).1
        have hc0 := hown.cellAt (d.length * 3 + 0) (by omega)
        have hc1 := hown.cellAt (d.length * 3 + 1) (by omega)
        have hst := hown.stored (d.length * 3 + 1) (.int .i64 (z.n + n))
        have hfz := hown.frozenAt (d.length * 3 + 1)
        rw [itCells_get _ d.length 0 (by omega) (by omega), snoc_get] at hc0
        rw [itCells_get _ d.length 1 (by omega) (by omega), snoc_get] at hc1
        replace hc0 : w.cell? ⟨g, d.length * 3, none⟩ = some (.int .u8 z.tag.toNat) := hc0
        replace hc1 : w.cell? ⟨g, d.length * 3 + 1, none⟩ = some (.int .i64 z.n) := hc1
        rw [itCells_set _ d.length 1 _ ⟨z.tag, z.n + n, z.at_⟩ (by omega) (by omega) (by rw [snoc_get]; rfl)] at hst
        have HST := Lib.hid hst
        clear hh hc hmx hs ht cur hst
        have hownV := hown
        rw [hdl] at hownV wc
        by_cases hzt : z.tag = t
        · have HE := Lib.hid (putIt_same (d := d) h0 hzt)
          have hzb : ((z.tag.toNat : Int) == (t.toNat : Int)) = true := by rw [hzt]; simp
          have HZT : Hid ((d ++ [z]).set d.length ⟨z.tag, z.n + n, z.at_⟩ = putIt (d ++ [z]) t n ∧ ((d ++ [z]).set d.length ⟨z.tag, z.n + n, z.at_⟩).length = d.length + 1) := mkHid ⟨by rw [HE.out, ← hzt]; simp, by simp⟩
          clear hzt h0
          go_enter Tryd.func50, Tryd.ntmps50
          go_wp2_with fail
          go_end0
          rw [← HZT.out.1]
          exact ⟨rfl, _, (Below.heap_setCell w ⟨g, d.length * 3 + 1, none⟩ _ wb (by simp; omega)).trans hwb, by rw [HZT.out.2, ← hdl]; exact HST.out.1, KeptW.stored HST.out.2 rfl⟩
        · have HE := Lib.hid (putIt_other (d := d) h0 hzt)
          have hzb : ((z.tag.toNat : Int) == (t.toNat : Int)) = false := by
            rw [beq_eq_false_iff_ne]; intro h; exact hzt (UInt8.toNat_inj.1 (by omega))
          clear hzt h0
          rw [hdl] at hwb ⊢
          go_enter Tryd.func50, Tryd.ntmps50
          go_wp2_with (at_builtin; refine wpList_append_lies _ rfl _ _ 22 rfl (wb + 1) 37 i0 (.agg #[.int .u8 0, .int .i64 0, .int .i64 0]) 3 24 Tryd.underlying22 hi0 hz0 hz1 hz2 rfl (by decide) _ _ _ rfl (hownV.alloc _) ⟨w.heap.size, 0, none⟩ 1 1 (itCell ⟨t, n, 0⟩) rfl rfl ?c1 ?c2 Nat.one_pos ?c3 ?c4 ?c5 _ rfl ?_)
          case c1 => first | exact fun jj u hj => new_cells w (itCell ⟨t, n, 0⟩) 37 jj u hj | exact fun jj u hj => hj
          case c2 => intro u hu; simp [itCell] at hu; rcases hu with rfl | rfl | rfl <;> rfl
          case c3 => unfold maxLen; (first | omega | simp)
          case c4 => (first | omega | simp)
          case c5 => simp; omega
          intro g2 cap2 w4 hown' hgrow hat hlt4
          have hown4 := hownV.alloc (Obj.cells #[Value.int IntKind.u8 t.toNat, Value.int IntKind.i64 n, Value.int IntKind.i64 0] 37)
          have hwb4 : w4.heap[wb]? = some (.cells #[.slice (some ⟨g, 0, none⟩) (d.length + 1) cap] 93 (0, 0)) := (hgrow.block wb (by simp; omega) (fun e => by have := (hownV.lt wb e.symm).1; omega)).trans ((Below.heap_alloc w _ wb hwbl).trans hwb)
          obtain ⟨wc4, wf4⟩ := one_cell _ _ _ _ hwb4
          have hown5 : w4.ownsRow (wb + 1) 37 3 (.slice (some ⟨g2, 0, none⟩) (d.length + 1 + 1) cap2) (d ++ [z] ++ [(⟨t, n, 0⟩ : It)]).length (itCells (d ++ [z] ++ [⟨t, n, 0⟩])) := by
            rw [itCells_append, List.length_append]; simpa [itCells] using hown'
          have hk4 : KeptW w w4 wb (.slice (some ⟨g, 0, none⟩) (d.length + 1) cap) (.slice (some ⟨g2, 0, none⟩) (d.length + 1 + 1) cap2) := KeptW.append hgrow (hat.imp (fun h => h.symm) (fun h => ⟨_, rfl, by rw [h]; simp⟩))
          clear hown' hgrow hown4 hown hownV wc wf
          go_wp2_with fail
          go_end0
          rw [HE.out]
          exact ⟨rfl, _, heap_setCell_same _ wb 0 _ 93 _ hwb4, owns_set_low hown5 (Nat.lt_succ_self wb), hk4.set⟩
end Go.Proofs.YtnpndkmcgpaibaaDoor
