/- The pen's methods walked. -/
import Derived.Test.YtnpndkmcgpaibaaDoorPE
import Derived.Test.YtnpndkmcgpaibaaDoorCN
import Derived.Deep.RegionLaw
import Derived.Deep.RegionHeldLaw
set_option linter.unusedVariables false
namespace Go.Proofs.YtnpndkmcgpaibaaDoor
open Go.RowKit Go.Sort
attribute [local go_sem high] eqA89

theorem KeptW.trans {w w1 w2 : World} {wb : Nat} {v v1 v2 : Value} (h : KeptW w w1 wb v v1) (k : KeptW w1 w2 wb v1 v2) : KeptW w w2 wb v v2 := by
  refine ⟨k.os.trans h.os, k.tape.trans h.tape, k.output.trans h.output, Nat.le_trans h.size k.size, fun j hj hb hv => ?_, ?_⟩
  · obtain ⟨h1, h2⟩ := h.far hj hb hv
    exact (k.block j (Nat.lt_of_lt_of_le hj h.size) hb h2).trans h1
  · rcases k.row with h2 | ⟨g, h2, h3⟩
    · rw [h2]; exact h.row
    · exact .inr ⟨g, h2, Nat.le_trans h.size h3⟩
theorem KeptW.at {w w4 : World} {wb : Nat} {v v' u : Value} {i : Nat} (h : KeptW w w4 wb v v') : KeptW w (w4.setCell ⟨wb, i, none⟩ u) wb v v' := by
  have hs : Below 0 w4 (w4.setCell ⟨wb, i, none⟩ u) := (Below.refl 0 w4).setCell (Nat.zero_le _) u
  exact ⟨hs.os.trans h.os, hs.tape.trans h.tape, hs.output.trans h.output, Nat.le_trans h.size hs.size, fun k hk hb hv => (Below.heap_setCell w4 ⟨wb, i, none⟩ u k hb).trans (h.block k hk hb hv), h.row⟩
theorem KeptW.undrew {w w4 : World} {wb : Nat} {v v' : Value} (h : KeptW w.drew w4 wb v v') : KeptW w w4 wb v v' := ⟨h.os, h.tape, h.output, h.size, h.block, h.row⟩
theorem KeptW.drew {w w4 : World} {wb : Nat} {v v' : Value} (h : KeptW w w4 wb v v') : KeptW w w4.drew wb v v' := ⟨h.os, h.tape, h.output, h.size, h.block, h.row⟩
theorem owns_at {w : World} {base sz n : Nat} {E : TypeId} {v u : Value} {p : Addr} {xs : List Value} (h : w.ownsRow base E sz v n xs) (hb : p.block < base) : (w.setCell p u).ownsRow base E sz v n xs := by
  refine ⟨h.1, ?_⟩
  rcases h.2 with h2 | ⟨g, cap, cur, hv, hg, hh, r⟩
  · exact .inl h2
  · exact .inr ⟨g, cap, cur, hv, hg, (Below.heap_setCell w p u g (by omega)).trans hh, r⟩
theorem four_any (w : World) (b : Nat) (e : TypeId) (z0 z1 z2 z3 : Value) (h : w.heap[b]? = some (.cells #[z0, z1, z2, z3] e (0, 0))) :
    (w.cell? ⟨b, 0, none⟩ = some z0 ∧ w.cell? ⟨b, 1, none⟩ = some z1 ∧ w.cell? ⟨b, 2, none⟩ = some z2 ∧ w.cell? ⟨b, 3, none⟩ = some z3) ∧
    (w.frozen? ⟨b, 0, none⟩ = false ∧ w.frozen? ⟨b, 1, none⟩ = false ∧ w.frozen? ⟨b, 2, none⟩ = false ∧ w.frozen? ⟨b, 3, none⟩ = false) :=
  ⟨⟨cell_of_row w b 0 _ e (0, 0) h, cell_of_row w b 1 _ e (0, 0) h, cell_of_row w b 2 _ e (0, 0) h, cell_of_row w b 3 _ e (0, 0) h⟩,
   ⟨frozen_of_row w b 0 _ e h, frozen_of_row w b 1 _ e h, frozen_of_row w b 2 _ e h, frozen_of_row w b 3 _ e h⟩⟩
theorem grownBy_set1 (w : World) (b i : Nat) (u : Value) : w.grownBy (w.setCell ⟨b, i, none⟩ u) (some b) := by
  have hs : Below 0 w (w.setCell ⟨b, i, none⟩ u) := (Below.refl 0 w).setCell (Nat.zero_le _) u
  exact ⟨hs.os, hs.tape, hs.output, hs.size, fun k hk hne => Below.heap_setCell w ⟨b, i, none⟩ u k (fun e => hne (by rw [e]))⟩
theorem grownBy_two {w w1 w2 : World} {b : Nat} (h : w.grownBy w1 (some b)) (k : w1.grownBy w2 (some b)) : w.grownBy w2 (some b) :=
  ⟨k.os.trans h.os, k.tape.trans h.tape, k.output.trans h.output, Nat.le_trans h.size k.size, fun j hj hne => (k.block j (Nat.lt_of_lt_of_le hj h.size) hne).trans (h.block j hj hne)⟩
theorem owns_grown {w w' : World} {base b e z n : Nat} {v : Value} {xs : List Value} (h : w.ownsRow base e z v n xs) (hg : w.grownBy w' (some b)) (hb : b < base) : w'.ownsRow base e z v n xs := by
  refine h.kept hg ?_
  cases hv : v.ownBlock with
  | none => exact .inl rfl
  | some k => exact .inr (by intro e; cases e; have := (h.lt _ hv).1; omega)
theorem KeptW.of_grown {w w' : World} {b : Nat} {v : Value} (h : w.grownBy w' (some b)) : KeptW w w' b v v :=
  ⟨h.os, h.tape, h.output, h.size, fun k hk hb _ => h.block k hk (fun e => hb (Option.some.inj e)), .inl rfl⟩
abbrev penCells (p : Pen) (vo : Value) : Obj := .cells #[.int .i64 p.x, .int .i64 p.y, .int .i64 p.many, vo] 100 (0, 0)

set_option maxRecDepth 100000 in
theorem pskip_any (pb : Nat) (x y m n : Int) (vo : Value) (w : World) (h : w.heap[pb]? = some (.cells #[.int .i64 x, .int .i64 y, .int .i64 m, vo] 100 (0, 0)))
    (hx : 0 ≤ x ∧ x ≤ 1099511627776) (hn : 0 ≤ n ∧ n ≤ 1099511627776) :
    Calls Tryd.prog 54 #[.pointer (some ⟨pb, 0, none⟩), .int .i64 n] w fun e w' => e = .returned (.tuple #[]) ∧ w'.heap[pb]? = some (.cells #[.int .i64 (x + n), .int .i64 y, .int .i64 m, vo] 100 (0, 0)) ∧ w.grownBy w' (some pb) := by
  obtain ⟨⟨c0, c1, c2, c3⟩, ⟨f0, f1, f2, f3⟩⟩ := four_any _ _ _ _ _ _ _ h
  go_enter Tryd.func54, Tryd.ntmps54
  go_wp2_with fail
  go_end0
  refine ⟨rfl, heap_setCell_same w pb 0 _ 100 _ h, grownBy_set1 w pb 0 _⟩
set_option maxRecDepth 100000 in
theorem pdown_any (pb : Nat) (x y m n : Int) (vo : Value) (w : World) (h : w.heap[pb]? = some (.cells #[.int .i64 x, .int .i64 y, .int .i64 m, vo] 100 (0, 0)))
    (hx : 0 ≤ y ∧ y ≤ 1099511627776) (hn : 0 ≤ n ∧ n ≤ 1099511627776) :
    Calls Tryd.prog 56 #[.pointer (some ⟨pb, 0, none⟩), .int .i64 n] w fun e w' => e = .returned (.tuple #[]) ∧ w'.heap[pb]? = some (.cells #[.int .i64 0, .int .i64 (y + n), .int .i64 m, vo] 100 (0, 0)) ∧ w.grownBy w' (some pb) := by
  obtain ⟨⟨c0, c1, c2, c3⟩, ⟨f0, f1, f2, f3⟩⟩ := four_any _ _ _ _ _ _ _ h
  go_enter Tryd.func56, Tryd.ntmps56
  go_wp2_with fail
  go_end0
  refine ⟨rfl, ?_, grownBy_two (grownBy_set1 w pb 0 _) (grownBy_set1 _ pb 1 _)⟩
  exact heap_setCell_same _ pb 1 _ 100 _ (heap_setCell_same w pb 0 _ 100 _ h)
set_option maxRecDepth 100000 in
theorem pwrong_any (pb : Nat) (p : Pen) (vo : Value) (w : World) (h : w.heap[pb]? = some (penCells p vo)) :
    Calls Tryd.prog 57 #[.pointer (some ⟨pb, 0, none⟩)] w fun e w' => e = .returned (.int .i64 (penErr p)) ∧ w' = w := by
  obtain ⟨x, y, m, o⟩ := p
  obtain ⟨⟨c0, c1, c2, c3⟩, ⟨f0, f1, f2, f3⟩⟩ := four_any _ _ _ _ _ _ _ h
  dsimp only at c0 c1 c2
  by_cases h1 : 1099511627776 < x
  · have HE : Hid (penErr ⟨x, y, m, o⟩ = 2) := mkHid (by unfold penErr; rw [if_pos (.inl h1)])
    go_enter Tryd.func57, Tryd.ntmps57
    go_wp2_with fail
    go_ret
    rw [HE.out]; exact ⟨rfl, rfl⟩
  · by_cases h2 : 1099511627776 < y
    · have HE : Hid (penErr ⟨x, y, m, o⟩ = 2) := mkHid (by unfold penErr; rw [if_pos (.inr h2)])
      go_enter Tryd.func57, Tryd.ntmps57
      go_wp2_with fail
      go_ret
      rw [HE.out]; exact ⟨rfl, rfl⟩
    · by_cases h3 : 2000 < m
      · have HE : Hid (penErr ⟨x, y, m, o⟩ = 3) := mkHid (by unfold penErr maxCoord; rw [if_neg (by dsimp only; omega), if_pos h3])
        go_enter Tryd.func57, Tryd.ntmps57
        go_wp2_with fail
        go_ret
        rw [HE.out]; exact ⟨rfl, rfl⟩
      · have HE : Hid (penErr ⟨x, y, m, o⟩ = 0) := mkHid (by unfold penErr maxCoord; rw [if_neg (by dsimp only; omega), if_neg h3])
        go_enter Tryd.func57, Tryd.ntmps57
        go_wp2_with fail
        go_ret
        rw [HE.out]; exact ⟨rfl, rfl⟩

set_option maxHeartbeats 8000000 in
set_option maxRecDepth 100000 in
theorem pdraw_any (pb : Nat) (x y m n : Int) (o : List (Int × Int)) (vo : Value) (w : World) (h : w.heap[pb]? = some (.cells #[.int .i64 x, .int .i64 y, .int .i64 m, vo] 100 (0, 0)))
    (hown : w.ownsRow (pb + 1) 89 2 vo o.length (ceCells o)) (hx : 0 ≤ x ∧ x ≤ 1099511627776) (hm : m = o.length) (hol : o.length ≤ 2000) (hn : 1 ≤ n ∧ n ≤ 1099511627776) :
    Calls Tryd.prog 55 #[.pointer (some ⟨pb, 0, none⟩), .int .i64 n] w fun e w' => e = .returned (.tuple #[]) ∧ ∃ o' vo', w'.heap[pb]? = some (.cells #[.int .i64 (x + n), .int .i64 y, .int .i64 (m + n), vo'] 100 (0, 0)) ∧
      w'.ownsRow (pb + 1) 89 2 vo' o'.length (ceCells o') ∧ KeptW w w' pb vo vo' ∧ (m + n ≤ 2000 → x + n ≤ 1099511627776 → o' = o ++ rowOf x y n.toNat) := by
  obtain ⟨⟨c0, c1, c2, c3⟩, ⟨f0, f1, f2, f3⟩⟩ := four_any _ _ _ _ _ _ _ h
  obtain ⟨i0, hi0, hz0, hz1, hz2⟩ := info_parts infoCell
  subst hm
  go_enter Tryd.func55, Tryd.ntmps55
  go_wp2_with fail
  have hh := heap_setCell_same w pb 2 _ 100 (.int .i64 ((o.length : Int) + n)) h
  have hk := (KeptW.refl w pb vo).at (i := 2) (u := .int .i64 ((o.length : Int) + n))
  have hown2 := owns_at (p := ⟨pb, 2, none⟩) (u := .int .i64 ((o.length : Int) + n)) hown (by show pb < pb + 1; omega)
  have hpb : pb < w.heap.size := (Array.getElem?_eq_some_iff.1 h).1
  replace hh : (w.setCell ⟨pb, 2, none⟩ (.int .i64 ((o.length : Int) + n))).heap[pb]? = some (.cells #[.int .i64 x, .int .i64 y, .int .i64 ((o.length : Int) + n), vo] 100 (0, 0)) := hh
  clear c0 c1 c2 c3 f0 f1 f2 f3 hown h
  generalize (w.setCell ⟨pb, 2, none⟩ (.int .i64 ((o.length : Int) + n))) = W0 at *
  obtain ⟨hx0, hx1⟩ := hx
  obtain ⟨hn0, hn1⟩ := hn
  by_cases hgo : (o.length : Int) + n ≤ 2000 ∧ x + n ≤ 1099511627776
  · obtain ⟨g1, g2⟩ := hgo
    have d1 : decide (2000 < (o.length : Int) + n) = false := by simpa using g1
    have d2 : decide (1099511627776 < x + n) = false := by simpa using g2
    go_loopw [14] (fun i wr => ∃ (c : Nat) (vp : Value), (c : Int) ≤ n ∧ i = .int .i64 c ∧ wr.heap[pb]? = some (.cells #[.int .i64 x, .int .i64 y, .int .i64 ((o.length : Int) + n), vp] 100 (0, 0)) ∧
      wr.ownsRow (pb + 1) 89 2 vp (o ++ rowOf x y c).length (ceCells (o ++ rowOf x y c)) ∧ KeptW w wr pb vo vp) (fun i _ => n.toNat - (intOf i).toNat)
    case atStart => exact ⟨0, vo, by omega, rfl, hh, by simpa [rowOf] using hown2, hk⟩
    case round =>
      clear hh hk hown2
      obtain ⟨c, vp, hc, rfl, hh, hown, hk⟩ := hrel
      obtain ⟨⟨c0, c1, c2, c3⟩, ⟨f0, f1, f2, f3⟩⟩ := four_any _ _ _ _ _ _ _ hh
      have hlen : (o ++ rowOf x y c).length = o.length + c := by rw [List.length_append, rowOf_len]
      by_cases hcn : (c : Int) < n
      · have HRS : Hid (o ++ rowOf x y (c + 1) = o ++ rowOf x y c ++ [(x + c, y)]) := mkHid (by rw [rowOf_succ, List.append_assoc])
        have hpr : pb < wr.heap.size := (Array.getElem?_eq_some_iff.1 hh).1
        go_wp2_with fail
        have hwx : IntKind.i64.wrap (x + c) = x + c := by rw [IntKind.wrap_i64]; omega
        have HWX := mkHid hwx
        clear hwx
        rw [hlen] at hown
        have hownA := hown.drew.alloc (Obj.cells #[Value.int IntKind.i64 (IntKind.i64.wrap (x + c)), Value.int IntKind.i64 y] 89)
        have hnw := fun jj u hj => new_cells wr.drew (ceCell (IntKind.i64.wrap (x + c), y)) 89 jj u hj
        have hbyt : (o.length + c + 1) * 16 ≤ 140737488355328 := by omega
        have hmx : o.length + c + 1 ≤ maxLen := by unfold maxLen; omega
        have hone : ∀ u ∈ ceCell (IntKind.i64.wrap (x + c), y), u.oneCell' = true := by intro u hu; simp [ceCell] at hu; rcases hu with rfl | rfl <;> rfl
        have hbase : pb + 1 ≤ (wr.drew.alloc (Obj.cells #[Value.int IntKind.i64 (IntKind.i64.wrap (x + c)), Value.int IntKind.i64 y] 89)).heap.size := by simp; show pb ≤ wr.heap.size; omega
        go_region_law
          ((refine step_append_lies _ rfl (.tmp 35) (.tmp 47) 43 rfl (pb + 1) 89 i0 (.agg #[.int .i64 0, .int .i64 0]) 2 16 Tryd.underlying43 hi0 hz0 hz1 hz2 rfl Nat.two_pos vp (o.length + c) (ceCells (o ++ rowOf x y c)) rfl hownA ⟨wr.heap.size, 0, none⟩ 1 1 (ceCell (IntKind.i64.wrap (x + c), y)) rfl rfl hnw hone Nat.one_pos hmx hbyt hbase _ rfl ?_; intro g cap w4 hown' hgrow hat hlt4; have hh4 := (hgrow.block pb (by simp; show pb < wr.heap.size + 1; omega) (fun e => by have := (hownA.lt pb e.symm).1; omega)).trans ((Below.heap_alloc wr.drew _ pb hpr).trans hh); obtain ⟨⟨hS0, hS1, hS2, hS3⟩, ⟨hT0, hT1, hT2, hT3⟩⟩ := four_any _ _ _ _ _ _ _ hh4))
        all_goals (
          have hown5 : w4.ownsRow (pb + 1) 89 2 (.slice (some ⟨g, 0, none⟩) (o.length + c + 1) cap) (o ++ rowOf x y (c + 1)).length (ceCells (o ++ rowOf x y (c + 1))) := by
            rw [HWX.out] at hown'
            rw [HRS.out, ceCells_append, List.length_append (bs := [(x + (c : Int), y)]), hlen, show ceCells [(x + (c : Int), y)] = ceCell (x + c, y) from by simp [ceCells]]; exact hown'
          have hk4 : KeptW w w4 pb vo (.slice (some ⟨g, 0, none⟩) (o.length + c + 1) cap) := hk.trans (KeptW.undrew (KeptW.append hgrow (hat.imp (fun h => h.symm) (fun h => ⟨_, rfl, by rw [h]; simp⟩))))
          have hh5 := heap_setCell_same w4 pb 3 _ 100 (.slice (some ⟨g, 0, none⟩) (o.length + c + 1) cap) hh4
          have hown6 := owns_at (p := ⟨pb, 3, none⟩) (u := .slice (some ⟨g, 0, none⟩) (o.length + c + 1) cap) hown5 (by show pb < pb + 1; omega)
          have hk6 := hk4.at (i := 3) (u := .slice (some ⟨g, 0, none⟩) (o.length + c + 1) cap)
          clear hown5 hk4 hown' hgrow hat hh4 hS0 hS1 hS2 hS3 hT0 hT1 hT2 hT3 hk hown hownA hnw hone hbase c0 c1 c2 c3 f0 f1 f2 f3 hh
          go_wp2_with fail
          exact ⟨⟨c + 1, _, by omega, by simp, hh5, hown6, hk6⟩, by simp [intOf]; omega⟩)
      · have hcz : (c : Int) = n := by omega
        have hnn : n.toNat = c := by omega
        go_wp2_with fail
        go_end0
        have hh5 := heap_setCell_same wr pb 0 _ 100 (.int .i64 (x + n)) hh
        exact ⟨rfl, _, _, hh5, owns_at (p := ⟨pb, 0, none⟩) (u := .int .i64 (x + n)) hown (by show pb < pb + 1; omega), hk.at, by first | rfl | exact fun _ _ => by rw [hnn]⟩
  · have hbad : (2000 < (o.length : Int) + n) ∨ (1099511627776 < x + n) := by omega
    go_loopw [14] (fun i wr => i = .int .i64 0 ∧ wr = W0) (fun _ _ => 0)
    case atStart => exact ⟨rfl, rfl⟩
    case round =>
      obtain ⟨rfl, rfl⟩ := hrel
      obtain ⟨⟨c0, c1, c2, c3⟩, ⟨f0, f1, f2, f3⟩⟩ := four_any _ _ _ _ _ _ _ hh
      have hh5 := heap_setCell_same wr pb 0 _ 100 (.int .i64 (x + n)) hh
      have hfin : (o.length : Int) + n ≤ 2000 → x + n ≤ 1099511627776 → o = o ++ rowOf x y n.toNat := fun a b => absurd ⟨a, b⟩ hgo
      have HFIN := mkHid hfin
      clear hfin hgo
      by_cases g1 : 2000 < (o.length : Int) + n
      · have d1 : decide (2000 < (o.length : Int) + n) = true := by simpa using g1
        go_wp2_with fail
        go_end0
        exact ⟨rfl, _, _, hh5, owns_at (p := ⟨pb, 0, none⟩) (u := .int .i64 (x + n)) hown2 (by show pb < pb + 1; omega), hk.at, HFIN.out⟩
      · have d1 : decide (2000 < (o.length : Int) + n) = false := by simpa using g1
        have d2 : decide (1099511627776 < x + n) = true := by simp; omega
        go_wp2_with fail
        go_end0
        exact ⟨rfl, _, _, hh5, owns_at (p := ⟨pb, 0, none⟩) (u := .int .i64 (x + n)) hown2 (by show pb < pb + 1; omega), hk.at, by first | exact HFIN.out | exact fun h => HFIN.out (by omega) h⟩
end Go.Proofs.YtnpndkmcgpaibaaDoor
