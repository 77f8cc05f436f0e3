/- put of the reference walked. -/
import Derived.Test.YtnpndkmcgpaibaaDoorPA
import Derived.Test.YtnpndkmcgpaibaaDoorCJ
set_option linter.unusedVariables false
namespace Go.Proofs.YtnpndkmcgpaibaaDoor
open Go.RowKit Go.Sort

theorem owns_slice {w : World} {base e z : Nat} {v : Value} {n : Nat} {l : List Value} (h : w.ownsRow base e z v n l) : ∃ a cap, v = .slice a n cap := by
  rcases h.2 with ⟨rfl, rfl⟩ | ⟨g, cap, cur, rfl, _⟩
  · exact ⟨none, 0, rfl⟩
  · exact ⟨_, cap, rfl⟩
theorem putIt_zero (l : List It) (t : UInt8) : putIt l t 0 = l := by unfold putIt; rw [if_pos rfl]
theorem putIt_nil {t : UInt8} {n : Int} (h : n ≠ 0) : putIt [] t n = [⟨t, n, 0⟩] := by unfold putIt; rw [if_neg h]; rfl
theorem putIt_other {d : List It} {z : It} {t : UInt8} {n : Int} (h : n ≠ 0) (hz : z.tag ≠ t) : putIt (d ++ [z]) t n = d ++ [z] ++ [⟨t, n, 0⟩] := by
  unfold putIt; rw [if_neg h]; simp [hz]
theorem putIt_same {d : List It} {z : It} {t : UInt8} {n : Int} (h : n ≠ 0) (hz : z.tag = t) : putIt (d ++ [z]) t n = d ++ [⟨t, z.n + n, z.at_⟩] := by
  unfold putIt; rw [if_neg h]; simp [hz]
theorem putIt_len (l : List It) (t : UInt8) (n : Int) : (putIt l t n).length ≤ l.length + 1 := by
  rcases List.eq_nil_or_concat l with rfl | ⟨d, z, rfl⟩
  · by_cases h : n = 0
    · subst h; rw [putIt_zero]; simp
    · rw [putIt_nil h]; simp
  · by_cases h : n = 0
    · subst h; rw [putIt_zero]; omega
    · by_cases hz : z.tag = t
      · rw [List.concat_eq_append, putIt_same h hz]; simp
      · rw [List.concat_eq_append, putIt_other h hz]; simp
theorem list_snoc {α : Type} (l : List α) (h : l ≠ []) : ∃ d z, l = d ++ [z] := by
  rcases List.eq_nil_or_concat l with rfl | ⟨d, z, rfl⟩
  · exact absurd rfl h
  · exact ⟨d, z, by simp⟩
theorem itCells_cell (l : List It) : ∀ u ∈ itCells l, u.oneCell' = true := by
  intro u hu
  obtain ⟨x, _, hx⟩ := List.mem_flatMap.1 hu
  simp [itCell] at hx
  rcases hx with rfl | rfl | rfl <;> rfl
theorem snoc_get (d : List It) (z : It) (h : d.length < (d ++ [z]).length) : (d ++ [z])[d.length] = z := by simp

set_option maxHeartbeats 4000000 in
set_option maxRecDepth 100000 in
theorem rput_any (v : Value) (l : List It) (t : UInt8) (n : Int) (base : Nat) (w : World) (hl : l.length ≤ 1000000) (hown : w.ownsRow base 37 3 v l.length (itCells l)) (hb : base ≤ w.heap.size)
    (hn0 : -4611686018427387904 ≤ n) (hn1 : n ≤ 4611686018427387904) (hz : ∀ z ∈ l, -4611686018427387904 ≤ z.n ∧ z.n < 4611686018427387904) :
    Calls Tryd.prog 51 #[v, .int .u8 t.toNat, .int .i64 n] w fun e w' => ∃ v', e = .returned v' ∧ w'.ownsRow base 37 3 v' (putIt l t n).length (itCells (putIt l t n)) ∧ Below base w w' := by
  obtain ⟨i0, hi0, hz0, hz1, hz2⟩ := info_parts infoItem
  by_cases h0 : n = 0
  · subst h0
    have HE := Lib.hid (putIt_zero l t)
    go_enter Tryd.func51, Tryd.ntmps51
    go_wp2
    go_ret
    rw [HE.out]
    exact ⟨_, rfl, hown, Below.refl _ w⟩
  · have h0b : (n == 0) = false := by rw [beq_eq_false_iff_ne]; exact h0
    by_cases he : l = []
    · subst he
      have HE := Lib.hid (putIt_nil (t := t) h0)
      clear h0
      obtain ⟨a, cap, rfl⟩ := owns_slice hown
      go_enter Tryd.func51, Tryd.ntmps51
      go_wp2_with (at_builtin; refine wpList_append_own _ rfl _ _ 22 rfl base 37 i0 (.agg #[.int .u8 0, .int .i64 0, .int .i64 0]) 3 24 Tryd.underlying22 hi0 hz0 hz1 hz2 rfl (by decide) _ _ _ rfl (hown.alloc _) ⟨w.heap.size, 0, none⟩ 1 1 (itCell ⟨t, n, 0⟩) rfl rfl ?c1 ?c2 ?c3 ?c4 ?c5 ?_)
      case c1 => first | exact fun jj u hj => new_cells w (itCell ⟨t, n, 0⟩) 37 jj u hj | exact fun jj u hj => hj
      case c2 => intro u hu; simp [itCell] at hu; rcases hu with rfl | rfl | rfl <;> rfl
      case c3 => unfold maxLen; simp
      case c4 => simp
      case c5 => simp; omega
      intro v' w4 hown' hgrow _
      have hown4 := hown.alloc (Obj.cells #[Value.int IntKind.u8 t.toNat, Value.int IntKind.i64 n, Value.int IntKind.i64 0] 37)
      have hb4 : Below base w w4 := below_own ((Below.refl base w).alloc hb _) hgrow hown4 (Nat.le_refl _) (by simp; omega)
      have hown5 : w4.ownsRow base 37 3 v' [(⟨t, n, 0⟩ : It)].length (itCells [⟨t, n, 0⟩]) := by simpa [itCells] using hown'
      clear hown' hgrow hown4 hown
      go_wp2
      go_ret
      rw [HE.out]
      exact ⟨_, rfl, hown5, hb4⟩
    · obtain ⟨d, z, rfl⟩ := list_snoc l he
      have hzz := hz z (by simp)
      clear hz he
      have hdl : (d ++ [z]).length = d.length + 1 := by simp
      rcases hown.2 with ⟨rfl, h1⟩ | ⟨g, cap, cur, rfl, hbg, hh, hc, hmx, hs, ht⟩
      · omega
      · have hgl : g < w.heap.size := (Array.getElem?_eq_some_iff.1 hh).1
        have hc0 := hown.cellAt (d.length * 3 + 0) (by omega)
        have hc1 := hown.cellAt (d.length * 3 + 1) (by omega)
        rw [itCells_get _ d.length 0 (by omega) (by omega), snoc_get] at hc0
        rw [itCells_get _ d.length 1 (by omega) (by omega), snoc_get] at hc1
        replace hc0 : w.cell? ⟨g, d.length * 3, none⟩ = some (.int .u8 z.tag.toNat) := hc0
        replace hc1 : w.cell? ⟨g, d.length * 3 + 1, none⟩ = some (.int .i64 z.n) := hc1
        clear hh hc hmx hs ht cur
        by_cases hzt : z.tag = t
        · have HE := Lib.hid (putIt_same (d := d) h0 hzt)
          have hzb : ((z.tag.toNat : Int) == (t.toNat : Int)) = true := by rw [hzt]; simp
          have HZT : Hid ((d ++ [z]).set d.length ⟨z.tag, z.n + n, z.at_⟩ = putIt (d ++ [z]) t n ∧ ((d ++ [z]).set d.length ⟨z.tag, z.n + n, z.at_⟩).length = d.length + 1) := mkHid ⟨by rw [HE.out, ← hzt]; simp, by simp⟩
          clear hzt h0
          rw [hdl] at hown ⊢
          go_enter Tryd.func51, Tryd.ntmps51
          have hnews : ∀ j u, (itCells (d ++ [z]))[j]? = some u → w.cell? ((⟨g, 0, none⟩ : Addr).add j) = some u := fun j u hj => by
            have hadd : (⟨g, 0, none⟩ : Addr).add j = ⟨g, j, none⟩ := by unfold Addr.add; split <;> simp_all
            rw [hadd]
            have hjl : j < (itCells (d ++ [z])).length := (List.getElem?_eq_some_iff.1 hj).1
            rw [itCells_length, hdl] at hjl
            exact (hown.cellAt j hjl).trans hj
          go_wp2_with (at_builtin; refine wpList_append_own _ rfl _ _ 22 rfl w.heap.size 37 i0 (.agg #[.int .u8 0, .int .i64 0, .int .i64 0]) 3 24 Tryd.underlying22 hi0 hz0 hz1 hz2 rfl (by decide) _ _ _ rfl (World.ownsRow_nil w w.heap.size 37 3) ⟨g, 0, none⟩ (d.length + 1) cap (itCells (d ++ [z])) rfl (by rw [itCells_length, hdl]) hnews ?c2 ?c3 ?c4 ?c5 ?_)
          case c2 => exact itCells_cell _
          case c3 => unfold maxLen; omega
          case c4 => omega
          case c5 => omega
          intro v' w4 hown' hgrow _
          have hbg4 : Below w.heap.size w w4 := below_own (Below.refl w.heap.size w) hgrow (World.ownsRow_nil w w.heap.size 37 3) (Nat.le_refl _) (Nat.le_refl _)
          rcases hown'.2 with ⟨rfl, h1⟩ | ⟨g', cap', cur', rfl, hbg', hh', hc', hmx', hs', ht'⟩
          · omega
          · have hst := hown'.stored (d.length * 3 + 1) (.int .i64 (z.n + n))
            have hd0 := hown'.cellAt (d.length * 3 + 0) (by omega)
            have hd1 := hown'.cellAt (d.length * 3 + 1) (by omega)
            have hfz := hown'.frozenAt (d.length * 3 + 1)
            rw [itCells_get _ d.length 0 (by omega) (by omega), snoc_get] at hd0
            rw [itCells_get _ d.length 1 (by omega) (by omega), snoc_get] at hd1
            replace hd0 : w4.cell? ⟨g', d.length * 3, none⟩ = some (.int .u8 z.tag.toNat) := hd0
            replace hd1 : w4.cell? ⟨g', d.length * 3 + 1, none⟩ = some (.int .i64 z.n) := hd1
            rw [itCells_set _ d.length 1 _ ⟨z.tag, z.n + n, z.at_⟩ (by omega) (by omega) (by rw [snoc_get]; rfl)] at hst
            have HST := Lib.hid hst
            have hbS := below_grown1 (hbg4.mono hb) hst.2 (Nat.le_trans hb hbg') (Nat.le_trans hb hbg4.size)
            clear hst hown' hh' hc' hmx' hs' ht' hnews hown hc0 hc1 hgrow
            have hpos : (d.length : Int) + 1 - 1 = d.length := by omega
            go_wp2_with fail
            go_ret
            rw [← HZT.out.1, HZT.out.2]
            exact ⟨_, rfl, owns_mono HST.out.1 hb, hbS⟩
        · have HE := Lib.hid (putIt_other (d := d) h0 hzt)
          have hzb : ((z.tag.toNat : Int) == (t.toNat : Int)) = false := by
            rw [beq_eq_false_iff_ne]; intro h; exact hzt (UInt8.toNat_inj.1 (by omega))
          clear hzt h0
          have hownV := hown
          rw [hdl] at hownV ⊢
          go_enter Tryd.func51, Tryd.ntmps51
          go_wp2_with (at_builtin; refine wpList_append_own _ rfl _ _ 22 rfl base 37 i0 (.agg #[.int .u8 0, .int .i64 0, .int .i64 0]) 3 24 Tryd.underlying22 hi0 hz0 hz1 hz2 rfl (by decide) _ _ _ rfl (hownV.alloc _) ⟨w.heap.size, 0, none⟩ 1 1 (itCell ⟨t, n, 0⟩) rfl rfl ?c1 ?c2 ?c3 ?c4 ?c5 ?_)
          case c1 => first | exact fun jj u hj => new_cells w (itCell ⟨t, n, 0⟩) 37 jj u hj | exact fun jj u hj => hj
          case c2 => intro u hu; simp [itCell] at hu; rcases hu with rfl | rfl | rfl <;> rfl
          case c3 => unfold maxLen; omega
          case c4 => omega
          case c5 => simp; omega
          intro v' w4 hown' hgrow _
          have hown4 := hownV.alloc (Obj.cells #[Value.int IntKind.u8 t.toNat, Value.int IntKind.i64 n, Value.int IntKind.i64 0] 37)
          have hb4 : Below base w w4 := below_own ((Below.refl base w).alloc hb _) hgrow hown4 (Nat.le_refl _) (by simp; omega)
          have hown5 : w4.ownsRow base 37 3 v' (d ++ [z] ++ [(⟨t, n, 0⟩ : It)]).length (itCells (d ++ [z] ++ [⟨t, n, 0⟩])) := by
            rw [itCells_append, List.length_append]; simpa [itCells] using hown'
          clear hown' hgrow hown4 hown hownV hc0 hc1
          go_wp2
          go_ret
          rw [HE.out]
          exact ⟨_, rfl, hown5, hb4⟩
end Go.Proofs.YtnpndkmcgpaibaaDoor
