/- The least box about a set of cells, of the program and of the reference. -/
import Derived.Test.YtnpndkmcgpaibaaDoorCB
set_option linter.unusedVariables false
namespace Go.Proofs.YtnpndkmcgpaibaaDoor
open Go.RowKit Go.Sort

def mins (d : Int) (l : List Int) : Int := l.foldl min d
def maxs (d : Int) (l : List Int) : Int := l.foldl max d
theorem mins_take (d : Int) (l : List Int) (k : Nat) (h : k < l.length) : mins d (l.take (k + 1)) = min (mins d (l.take k)) l[k] := by
  unfold mins; rw [List.take_succ_eq_append_getElem h, List.foldl_append]; rfl
theorem maxs_take (d : Int) (l : List Int) (k : Nat) (h : k < l.length) : maxs d (l.take (k + 1)) = max (maxs d (l.take k)) l[k] := by
  unfold maxs; rw [List.take_succ_eq_append_getElem h, List.foldl_append]; rfl
def lefts (l : List (Int × Int)) (k : Nat) : Int := mins (l.getD 0 (0, 0)).1 ((l.map (·.1)).take k)
def rights (l : List (Int × Int)) (k : Nat) : Int := maxs (l.getD 0 (0, 0)).1 ((l.map (·.1)).take k)
theorem lefts_succ (l : List (Int × Int)) (k : Nat) (h : k < l.length) : lefts l (k + 1) = min (lefts l k) (l[k]).1 := by
  unfold lefts; rw [mins_take _ _ _ (by simpa using h)]; simp
theorem rights_succ (l : List (Int × Int)) (k : Nat) (h : k < l.length) : rights l (k + 1) = max (rights l k) (l[k]).1 := by
  unfold rights; rw [maxs_take _ _ _ (by simpa using h)]; simp
/-- left, top, width, height; and whether there is a box -/
def boxOf (l : List (Int × Int)) : (Int × Int × Int × Int) × Bool :=
  if l = [] ∨ rightB l = false then ((0, 0, 0, 0), false)
  else ((lefts l l.length, (l.getD 0 (0, 0)).2, rights l l.length - lefts l l.length + 1, (l.getD (l.length - 1) (0, 0)).2 - (l.getD 0 (0, 0)).2 + 1), true)
theorem right_in {l : List (Int × Int)} (h : rightB l = true) (k : Nat) (hk : k < l.length) : -1099511627776 ≤ (l[k]).1 ∧ (l[k]).1 ≤ 1099511627776 ∧ -1099511627776 ≤ (l[k]).2 ∧ (l[k]).2 ≤ 1099511627776 := by
  unfold rightB at h
  rw [Bool.and_eq_true] at h
  have h1 := List.all_eq_true.1 h.1 k (List.mem_range.2 hk)
  unfold okAt at h1
  rw [Bool.and_eq_true, getD_at _ _ _ hk] at h1
  have h2 := h1.1
  unfold inB at h2
  simpa using h2
theorem sides_in {l : List (Int × Int)} (h : rightB l = true) (h0 : 0 < l.length) (k : Nat) (hk : k ≤ l.length) : -1099511627776 ≤ lefts l k ∧ lefts l k ≤ 1099511627776 ∧ -1099511627776 ≤ rights l k ∧ rights l k ≤ 1099511627776 := by
  induction k with
  | zero =>
    have := right_in h 0 h0
    unfold lefts rights mins maxs
    rw [getD_at _ _ _ h0]
    simp
    omega
  | succ k ih =>
    have h1 := ih (by omega)
    have h2 := right_in h k (by omega)
    rw [lefts_succ _ _ (by omega), rights_succ _ _ (by omega)]
    omega
def boxV (p : (Int × Int × Int × Int) × Bool) : Value := .tuple #[.agg #[.int .i64 p.1.1, .int .i64 p.1.2.1, .int .i64 p.1.2.2.1, .int .i64 p.1.2.2.2], .bool p.2]

theorem four (w : World) (b : Nat) (z0 z1 z2 z3 : Value) (h : w.heap[b]? = some (.cells #[z0, z1, z2, z3] 53 (0, 0))) :
    (w.cell? ⟨b, 0, none⟩ = some z0 ∧ w.cell? ⟨b, 1, none⟩ = some z1 ∧ w.cell? ⟨b, 2, none⟩ = some z2 ∧ w.cell? ⟨b, 3, none⟩ = some z3) ∧
    (w.frozen? ⟨b, 0, none⟩ = false ∧ w.frozen? ⟨b, 1, none⟩ = false ∧ w.frozen? ⟨b, 2, none⟩ = false ∧ w.frozen? ⟨b, 3, none⟩ = false) :=
  ⟨⟨cell_of_row w b 0 _ 53 (0, 0) h, cell_of_row w b 1 _ 53 (0, 0) h, cell_of_row w b 2 _ 53 (0, 0) h, cell_of_row w b 3 _ 53 (0, 0) h⟩,
    ⟨frozen_of_row w b 0 _ 53 h, frozen_of_row w b 1 _ 53 h, frozen_of_row w b 2 _ 53 h, frozen_of_row w b 3 _ 53 h⟩⟩

set_option maxHeartbeats 4000000 in
set_option maxRecDepth 100000 in
theorem box_walk (v : Value) (l : List (Int × Int)) (w : World) (hl : l.length ≤ 4611686018427387904) (hv : CRow w v l) :
    Calls Tryd.prog 49 #[v] w fun e w' => e = .returned (boxV (boxOf l)) ∧ Below w.heap.size w w' := by
  obtain ⟨a, cap, rfl, hcs⟩ := crow_at hv
  have HC := Lib.hid hcs
  clear hcs
  have hW : Below w.heap.size w (w.alloc (Obj.cells #[Value.int IntKind.i64 0, Value.int IntKind.i64 0, Value.int IntKind.i64 0, Value.int IntKind.i64 0] 53)) := (Below.refl _ w).alloc (Nat.le_refl _) _
  have hnew := heap_alloc_new w (Obj.cells #[Value.int IntKind.i64 0, Value.int IntKind.i64 0, Value.int IntKind.i64 0, Value.int IntKind.i64 0] 53)
  have hv' := hv.below hW
  by_cases he : l = []
  · have HB : Hid (boxOf l = ((0, 0, 0, 0), false)) := mkHid (if_pos (.inl he))
    subst he
    obtain ⟨⟨c0, c1, c2, c3⟩, ⟨f0, f1, f2, f3⟩⟩ := four _ _ _ _ _ _ hnew
    clear hnew hv hv' HC
    go_enter Tryd.func49, Tryd.ntmps49
    go_wp2_with fail
    refine bodyPost_ret (v := boxV ((0, 0, 0, 0), false)) ?_ rfl ?_
    · simp [results, Tryd.results49, go_sem, c0, c1, c2, c3, boxV]
    · refine ⟨by rw [HB.out], ?_⟩
      repeat (first | exact hW | refine Below.setCell ?_ (Nat.le_refl _) _)
  · have h0 : 0 < l.length := List.length_pos_iff.2 he
    have h0' : ((l.length : Int) == 0) = false := by rw [beq_eq_false_iff_ne]; omega
    go_enter Tryd.func49, Tryd.ntmps49
    go_wp2_with fail
    refine (right_walk _ l _ hl hv').mono ?_
    rintro e w1 ⟨rfl, hb1⟩
    have hh1 := (hb1.block w.heap.size (by simp)).trans hnew
    have hbw := hW.trans (hb1.mono hW.size)
    clear hb1 hnew hv' hW
    cases hr : rightB l with
    | false =>
      have HB : Hid (boxOf l = ((0, 0, 0, 0), false)) := mkHid (if_pos (.inr hr))
      obtain ⟨⟨c0, c1, c2, c3⟩, ⟨f0, f1, f2, f3⟩⟩ := four _ _ _ _ _ _ hh1
      clear hh1 hv HC
      go_wp2_with fail
      refine bodyPost_ret (v := boxV ((0, 0, 0, 0), false)) ?_ rfl ?_
      · simp [results, Tryd.results49, go_sem, c0, c1, c2, c3, boxV]
      · refine ⟨by rw [HB.out], ?_⟩
        exact (((hbw.setCell (p := ⟨w.heap.size, 0, none⟩) (Nat.le_refl _) _).setCell (p := ⟨w.heap.size, 1, none⟩) (Nat.le_refl _) _).setCell (p := ⟨w.heap.size, 2, none⟩) (Nat.le_refl _) _).setCell (p := ⟨w.heap.size, 3, none⟩) (Nat.le_refl _) _
    | true =>
      have HSD := Lib.hid (sides_in hr h0)
      have HIN := Lib.hid (right_in hr)
      have HB : Hid (boxOf l = ((lefts l l.length, (l.getD 0 (0, 0)).2, rights l l.length - lefts l l.length + 1, (l.getD (l.length - 1) (0, 0)).2 - (l.getD 0 (0, 0)).2 + 1), true)) := mkHid (if_neg (by rintro (h | h); exact he h; rw [hr] at h; cases h))
      obtain ⟨b, o, rfl, hbs, q0, q1⟩ := HC.out 0 h0
      have p0 := (hbw.cell (p := ⟨b, o + 0 * 2, none⟩) hbs).trans q0
      have p1 := (hbw.cell (p := ⟨b, o + 0 * 2 + 1, none⟩) hbs).trans q1
      simp only [Nat.zero_mul, Nat.add_zero] at p0 p1 q0 q1
      have e0 : l.getD 0 (0, 0) = l[0] := getD_at _ _ _ h0
      have h0'' : (0 : Int) < l.length := by omega
      have HL0 : Hid (lefts l 0 = (l[0]).1 ∧ rights l 0 = (l[0]).1) := mkHid (by unfold lefts rights mins maxs; rw [e0]; simp)
      clear hv hr
      go_wp2_with fail
      go_region
      have hh2 : w1.drew.heap[w.heap.size]? = some (Obj.cells #[Value.int IntKind.i64 0, Value.int IntKind.i64 0, Value.int IntKind.i64 0, Value.int IntKind.i64 0] 53) := hh1
      have hbw2 := hbw.drew
      clear hh1 hbw p0 p1
      generalize w1.drew = w2 at *
      have hsz2 : w.heap.size < w2.heap.size := (Array.getElem?_eq_some_iff.1 hh2).1
      rw [← HL0.out.1]
      go_wp2_with fail
      go_loopw [4, 5, 29] (fun lf rg i wr => ∃ k : Nat, k ≤ l.length ∧ i = .int .i64 k ∧ lf = .int .i64 (lefts l k) ∧ rg = .int .i64 (rights l k) ∧ Below w2.heap.size w2 wr) (fun _ _ i _ => l.length - (intOf i).toNat)
      case atStart => exact ⟨0, Nat.zero_le _, rfl, rfl, by rw [HL0.out.1, HL0.out.2], Below.refl _ _⟩
      case round =>
        obtain ⟨k, hk, rfl, rfl, rfl, hbr⟩ := hrel
        have hbR := hbw2.trans (hbr.mono hbw2.size)
        by_cases hlt : k < l.length
        · obtain ⟨b', o', hbo, hbs', r0, r1⟩ := HC.out k hlt
          simp only [Option.some.injEq, Addr.mk.injEq, and_true] at hbo
          obtain ⟨rfl, rfl⟩ := hbo
          have s0 := (hbR.cell (p := ⟨b, o + k * 2, none⟩) hbs).trans r0
          have s1 := (hbR.cell (p := ⟨b, o + k * 2 + 1, none⟩) hbs).trans r1
          have HLS := Lib.hid (lefts_succ l k hlt)
          have HRS := Lib.hid (rights_succ l k hlt)
          have hlt' : (k : Int) < l.length := by omega
          have hsd := HSD.out k hk
          generalize l[k] = x at *
          generalize lefts l k = lf at *
          generalize rights l k = rg at *
          have n0 : (wr.alloc (Obj.cells #[Value.int IntKind.i64 x.1, Value.int IntKind.i64 x.2] 89)).cell? ⟨wr.heap.size, 0, none⟩ = some (.int .i64 x.1) := new_cells wr [.int .i64 x.1, .int .i64 x.2] 89 0 _ rfl
          have hbW : Below w2.heap.size w2 (wr.alloc (Obj.cells #[Value.int IntKind.i64 x.1, Value.int IntKind.i64 x.2] 89)) := hbr.alloc hbr.size _
          clear r0 r1 q0 q1 e0
          go_wp2_with fail
          clear s0 s1
          generalize (wr.alloc (Obj.cells #[Value.int IntKind.i64 x.1, Value.int IntKind.i64 x.2] 89)) = W at *
          go_region
          go_wp2_with fail
          exact ⟨⟨k + 1, by omega, by simp, by rw [HLS.out], by rw [HRS.out], hbW.drew⟩, by simp [intOf]; omega⟩
        · have hkl : k = l.length := by omega
          subst hkl
          obtain ⟨b', o', hbo, hbs', r0, r1⟩ := HC.out (l.length - 1) (by omega)
          simp only [Option.some.injEq, Addr.mk.injEq, and_true] at hbo
          obtain ⟨rfl, rfl⟩ := hbo
          have t1 := (hbR.cell (p := ⟨b, o + 1, none⟩) hbs).trans q1
          have s1 := (hbR.cell (p := ⟨b, o + (l.length - 1) * 2 + 1, none⟩) hbs).trans r1
          have hsd := HSD.out l.length (Nat.le_refl _)
          have hi0 := HIN.out 0 h0
          have hi1 := HIN.out (l.length - 1) (by omega)
          have e1 : l.getD (l.length - 1) (0, 0) = l[l.length - 1] := getD_at _ _ _ (by omega)
          have hh3 := (hbr.block w.heap.size hsz2).trans hh2
          obtain ⟨⟨c0, c1, c2, c3⟩, ⟨f0, f1, f2, f3⟩⟩ := four _ _ _ _ _ _ hh3
          rw [e0, e1] at HB
          have hpos : (0 : Int) < l.length := by omega
          have hidx : ((l.length : Int) - 1).toNat = l.length - 1 := by omega
          clear q0 q1 r0 r1 HL0 e0 e1 hh2 hh3
          generalize l[0] = u at *
          generalize l[l.length - 1] = u' at *
          generalize lefts l l.length = lf at *
          generalize rights l l.length = rg at *
          obtain ⟨a1, a2, a3, a4⟩ := hsd
          obtain ⟨g1, g2, g3, g4⟩ := hi0
          obtain ⟨j1, j2, j3, j4⟩ := hi1
          go_wp2_with fail
          go_region
          go_wp2_with fail
          refine bodyPost_ret (v := boxV ((lf, u.2, rg - lf + 1, u'.2 - u.2 + 1), true)) ?_ rfl ?_
          · simp [results, Tryd.results49, go_sem, c0, c1, c2, c3, boxV]
          · refine ⟨by rw [HB.out], ?_⟩
            exact (((hbR.drew.setCell (p := ⟨w.heap.size, 0, none⟩) (Nat.le_refl _) _).setCell (p := ⟨w.heap.size, 1, none⟩) (Nat.le_refl _) _).setCell (p := ⟨w.heap.size, 2, none⟩) (Nat.le_refl _) _).setCell (p := ⟨w.heap.size, 3, none⟩) (Nat.le_refl _) _
end Go.Proofs.YtnpndkmcgpaibaaDoor
