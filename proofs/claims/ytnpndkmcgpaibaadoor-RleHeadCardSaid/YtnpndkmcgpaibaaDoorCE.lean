/- The least box about a set of cells: the reference's. -/
import Derived.Test.YtnpndkmcgpaibaaDoorCD
set_option linter.unusedVariables false
namespace Go.Proofs.YtnpndkmcgpaibaaDoor
open Go.RowKit Go.Sort

def tops (l : List (Int × Int)) (k : Nat) : Int := mins (l.getD 0 (0, 0)).2 ((l.map (·.2)).take k)
def bots (l : List (Int × Int)) (k : Nat) : Int := maxs (l.getD 0 (0, 0)).2 ((l.map (·.2)).take k)
theorem tops_succ (l : List (Int × Int)) (k : Nat) (h : k < l.length) : tops l (k + 1) = min (tops l k) (l[k]).2 := by
  unfold tops; rw [mins_take _ _ _ (by simpa using h)]; simp
theorem bots_succ (l : List (Int × Int)) (k : Nat) (h : k < l.length) : bots l (k + 1) = max (bots l k) (l[k]).2 := by
  unfold bots; rw [maxs_take _ _ _ (by simpa using h)]; simp
theorem right_step {l : List (Int × Int)} (h : rightB l = true) (k : Nat) (hk : k + 1 < l.length) : lessB l[k] l[k + 1] = true := by
  unfold rightB at h
  rw [Bool.and_eq_true] at h
  have h1 := List.all_eq_true.1 h.1 (k + 1) (List.mem_range.2 hk)
  unfold okAt at h1
  rw [Bool.and_eq_true, getD_at _ _ _ hk, Nat.add_sub_cancel, getD_at _ _ k (by omega)] at h1
  simpa using h1.2
theorem less_y {a b : Int × Int} (h : lessB a b = true) : a.2 ≤ b.2 := by
  unfold lessB at h; simp at h; omega
theorem right_y {l : List (Int × Int)} (h : rightB l = true) (k : Nat) (hk : k < l.length) : (l[0]).2 ≤ (l[k]).2 := by
  induction k with
  | zero => exact Int.le_refl _
  | succ k ih => exact Int.le_trans (ih (by omega)) (less_y (right_step h k hk))
theorem tops_right {l : List (Int × Int)} (h : rightB l = true) (h0 : 0 < l.length) (k : Nat) (hk : k ≤ l.length) : tops l k = (l[0]).2 := by
  induction k with
  | zero => unfold tops mins; rw [getD_at _ _ _ h0]; rfl
  | succ k ih =>
    rw [tops_succ _ _ (by omega), ih (by omega)]
    have := right_y h k (by omega)
    omega
theorem bots_right {l : List (Int × Int)} (h : rightB l = true) (k : Nat) (hk : k < l.length) : bots l (k + 1) = (l[k]).2 := by
  induction k with
  | zero =>
    rw [bots_succ _ _ hk]
    unfold bots maxs
    rw [getD_at _ _ _ hk]
    simp
  | succ k ih =>
    rw [bots_succ _ _ hk, ih (by omega)]
    have := less_y (right_step h k hk)
    omega
theorem ys_in {l : List (Int × Int)} (h : rightB l = true) (h0 : 0 < l.length) (k : Nat) (hk : k ≤ l.length) : -1099511627776 ≤ bots l k ∧ bots l k ≤ 1099511627776 := by
  cases k with
  | zero =>
    have := right_in h 0 h0
    unfold bots maxs
    rw [getD_at _ _ _ h0]
    simp
    omega
  | succ k =>
    rw [bots_right h k (by omega)]
    have := right_in h k (by omega)
    omega

/-- a block of two cells, read and set -/
theorem two (w : World) (b : Nat) (e : TypeId) (z0 z1 : Value) (h : w.heap[b]? = some (.cells #[z0, z1] e (0, 0))) :
    (w.cell? ⟨b, 0, none⟩ = some z0 ∧ w.cell? ⟨b, 1, none⟩ = some z1) ∧ (w.frozen? ⟨b, 0, none⟩ = false ∧ w.frozen? ⟨b, 1, none⟩ = false) :=
  ⟨⟨cell_of_row w b 0 _ e (0, 0) h, cell_of_row w b 1 _ e (0, 0) h⟩, ⟨frozen_of_row w b 0 _ e h, frozen_of_row w b 1 _ e h⟩⟩
theorem two_set (w : World) (b : Nat) (e : TypeId) (z0 z1 u v : Value) (h : w.heap[b]? = some (.cells #[z0, z1] e (0, 0))) :
    ((w.setCell ⟨b, 0, none⟩ u).setCell ⟨b, 1, none⟩ v).heap[b]? = some (.cells #[u, v] e (0, 0)) := by
  have h1 := heap_setCell_same w b 0 _ e u h
  have h2 := heap_setCell_same _ b 1 _ e v h1
  exact h2
theorem drew_heap (w : World) : w.drew.heap = w.heap := rfl
theorem two_other (w : World) (b b' : Nat) (u v : Value) (hb : b' ≠ b) : ((w.setCell ⟨b, 0, none⟩ u).setCell ⟨b, 1, none⟩ v).heap[b']? = w.heap[b']? := by
  rw [heap_setCell_other _ ⟨b, 1, none⟩ b' v hb, heap_setCell_other _ ⟨b, 0, none⟩ b' u hb]

set_option maxHeartbeats 4000000 in
set_option maxRecDepth 100000 in
theorem rbox_walk (v : Value) (l : List (Int × Int)) (w : World) (hl : l.length ≤ 4611686018427387904) (hv : CRow w v l) :
    Calls Tryd.prog 30 #[v] w fun e w' => e = .returned (boxV (boxOf l)) ∧ Below w.heap.size w w' := by
  obtain ⟨a, cap, rfl, hcs⟩ := crow_at hv
  have HC := Lib.hid hcs
  clear hcs
  have hW : Below w.heap.size w (w.alloc (Obj.cells #[Value.int IntKind.i64 0, Value.int IntKind.i64 0, Value.int IntKind.i64 0, Value.int IntKind.i64 0] 53)) := (Below.refl _ w).alloc (Nat.le_refl _) _
  have hnew := heap_alloc_new w (Obj.cells #[Value.int IntKind.i64 0, Value.int IntKind.i64 0, Value.int IntKind.i64 0, Value.int IntKind.i64 0] 53)
  have hv' := hv.below hW
  by_cases he : l = []
  · have HB : Hid (boxOf l = ((0, 0, 0, 0), false)) := mkHid (if_pos (.inl he))
    subst he
    obtain ⟨⟨c0, c1, c2, c3⟩, ⟨f0, f1, f2, f3⟩⟩ := four _ _ _ _ _ _ hnew
    clear hnew hv hv' HC
    go_enter Tryd.func30, Tryd.ntmps30
    go_wp2_with fail
    refine bodyPost_ret (v := boxV ((0, 0, 0, 0), false)) ?_ rfl ?_
    · simp [results, Tryd.results30, go_sem, c0, c1, c2, c3, boxV]
    · refine ⟨by rw [HB.out], ?_⟩
      repeat (first | exact hW | refine Below.setCell ?_ (Nat.le_refl _) _)
  · have h0 : 0 < l.length := List.length_pos_iff.2 he
    have h0' : ((l.length : Int) == 0) = false := by rw [beq_eq_false_iff_ne]; omega
    go_enter Tryd.func30, Tryd.ntmps30
    go_wp2_with fail
    refine (rright_walk _ l _ hl hv').mono ?_
    rintro e w1 ⟨rfl, hb1⟩
    have hh1 := (hb1.block w.heap.size (by simp)).trans hnew
    have hbw := hW.trans (hb1.mono hW.size)
    clear hb1 hnew hv' hW
    cases hr : rightB l with
    | false =>
      have HB : Hid (boxOf l = ((0, 0, 0, 0), false)) := mkHid (if_pos (.inr hr))
      obtain ⟨⟨c0, c1, c2, c3⟩, ⟨f0, f1, f2, f3⟩⟩ := four _ _ _ _ _ _ hh1
      clear hh1 hv HC
      go_wp2_with fail
      refine bodyPost_ret (v := boxV ((0, 0, 0, 0), false)) ?_ rfl ?_
      · simp [results, Tryd.results30, go_sem, c0, c1, c2, c3, boxV]
      · refine ⟨by rw [HB.out], ?_⟩
        exact (((hbw.setCell (p := ⟨w.heap.size, 0, none⟩) (Nat.le_refl _) _).setCell (p := ⟨w.heap.size, 1, none⟩) (Nat.le_refl _) _).setCell (p := ⟨w.heap.size, 2, none⟩) (Nat.le_refl _) _).setCell (p := ⟨w.heap.size, 3, none⟩) (Nat.le_refl _) _
    | true =>
      have HSD := Lib.hid (sides_in hr h0)
      have HYS := Lib.hid (ys_in hr h0)
      have HTR := Lib.hid (tops_right hr h0)
      have HIN := Lib.hid (right_in hr)
      have HB : Hid (boxOf l = ((lefts l l.length, tops l l.length, rights l l.length - lefts l l.length + 1, bots l l.length - tops l l.length + 1), true)) := mkHid (by
        have e1 : l.getD 0 (0, 0) = l[0] := getD_at _ _ _ h0
        have e2 : l.getD (l.length - 1) (0, 0) = l[l.length - 1] := getD_at _ _ _ (by omega)
        have e3 := bots_right hr (l.length - 1) (by omega)
        rw [Nat.sub_add_cancel (by omega)] at e3
        unfold boxOf
        rw [if_neg (by rintro (h | h); exact he h; rw [hr] at h; cases h), e1, e2, e3, tops_right hr h0 _ (Nat.le_refl _)])
      obtain ⟨b, o, rfl, hbs, q0, q1⟩ := HC.out 0 h0
      have p0 := (hbw.cell (p := ⟨b, o + 0 * 2, none⟩) hbs).trans q0
      have p1 := (hbw.cell (p := ⟨b, o + 0 * 2 + 1, none⟩) hbs).trans q1
      have hbwA := hbw.alloc hbw.size (Obj.cells #[Value.int IntKind.i64 (l[0]).1, Value.int IntKind.i64 (l[0]).2] 89)
      have pA0 := (hbwA.cell (p := ⟨b, o + 0 * 2, none⟩) hbs).trans q0
      have pA1 := (hbwA.cell (p := ⟨b, o + 0 * 2 + 1, none⟩) hbs).trans q1
      simp only [Nat.zero_mul, Nat.add_zero] at p0 p1 q0 q1 pA0 pA1
      have h0'' : (0 : Int) < l.length := by omega
      have HL0 : Hid (lefts l 0 = (l[0]).1 ∧ rights l 0 = (l[0]).1 ∧ tops l 0 = (l[0]).2 ∧ bots l 0 = (l[0]).2) := mkHid (by
        have e0 : l.getD 0 (0, 0) = l[0] := getD_at _ _ _ h0
        unfold lefts rights tops bots mins maxs; rw [e0]; simp)
      clear hv hr
      go_wp2_with fail
      have hs1 : w.heap.size < w1.heap.size := (Array.getElem?_eq_some_iff.1 hh1).1
      go_loopw [6] (fun i wr => ∃ k : Nat, k ≤ l.length ∧ i = .int .i64 k ∧ Below w.heap.size w wr ∧ wr.heap[w.heap.size]? = some (Obj.cells #[Value.int IntKind.i64 0, Value.int IntKind.i64 0, Value.int IntKind.i64 0, Value.int IntKind.i64 0] 53 (0, 0)) ∧
        wr.heap[w1.heap.size]? = some (Obj.cells #[Value.int IntKind.i64 (lefts l k), Value.int IntKind.i64 (tops l k)] 89 (0, 0)) ∧ wr.heap[w1.heap.size + 1]? = some (Obj.cells #[Value.int IntKind.i64 (rights l k), Value.int IntKind.i64 (bots l k)] 89 (0, 0))) (fun i _ => l.length - (intOf i).toNat)
      case atStart =>
        obtain ⟨z1, z2, z3, z4⟩ := HL0.out
        refine ⟨0, Nat.zero_le _, rfl, hbwA.alloc hbwA.size _, ?_, ?_, ?_⟩
        · rw [Below.heap_alloc _ _ _ (by simp; omega), Below.heap_alloc _ _ _ hs1]; exact hh1
        · rw [Below.heap_alloc _ _ _ (by simp), z1, z3]; exact heap_alloc_new w1 _
        · rw [z2, z4]
          have := heap_alloc_new (w1.alloc (Obj.cells #[Value.int IntKind.i64 (l[0]).1, Value.int IntKind.i64 (l[0]).2] 89)) (Obj.cells #[Value.int IntKind.i64 (l[0]).1, Value.int IntKind.i64 (l[0]).2] 89)
          rw [show (w1.alloc (Obj.cells #[Value.int IntKind.i64 (l[0]).1, Value.int IntKind.i64 (l[0]).2] 89)).heap.size = w1.heap.size + 1 by simp] at this
          exact this
      case round =>
        obtain ⟨k, hk, rfl, hbR, hB0, hA, hBb⟩ := hrel
        clear p0 p1 q0 q1 pA0 pA1 hbwA hh1 HL0
        generalize hBk : w1.heap.size + 1 = Bb at *
        generalize w1.heap.size = Ab at *
        obtain ⟨⟨ca0, ca1⟩, ⟨fa0, fa1⟩⟩ := two _ _ _ _ _ hA
        obtain ⟨⟨cb0, cb1⟩, ⟨fb0, fb1⟩⟩ := two _ _ _ _ _ hBb
        by_cases hlt : k < l.length
        · obtain ⟨b', o', hbo, hbs', r0, r1⟩ := HC.out k hlt
          simp only [Option.some.injEq, Addr.mk.injEq, and_true] at hbo
          obtain ⟨rfl, rfl⟩ := hbo
          have s0 := (hbR.cell (p := ⟨b, o + k * 2, none⟩) hbs).trans r0
          have s1 := (hbR.cell (p := ⟨b, o + k * 2 + 1, none⟩) hbs).trans r1
          have HLS := Lib.hid (lefts_succ l k hlt)
          have HRS := Lib.hid (rights_succ l k hlt)
          have HTS := Lib.hid (tops_succ l k hlt)
          have HBS := Lib.hid (bots_succ l k hlt)
          have hlt' : (k : Int) < l.length := by omega
          generalize l[k] = x at *
          generalize lefts l k = lf at *
          generalize rights l k = rg at *
          generalize tops l k = tp at *
          generalize bots l k = bt at *
          go_wp2_with fail
          go_region
          have hA2 : (((wr.setCell ⟨Ab, 0, none⟩ (Value.int IntKind.i64 (min lf x.1))).setCell ⟨Ab, 1, none⟩ (Value.int IntKind.i64 (min tp x.2))).drew).heap[Ab]? = some (Obj.cells #[Value.int IntKind.i64 (min lf x.1), Value.int IntKind.i64 (min tp x.2)] 89 (0, 0)) := by rw [drew_heap]; exact two_set wr Ab 89 _ _ _ _ hA
          have hB2 : (((wr.setCell ⟨Ab, 0, none⟩ (Value.int IntKind.i64 (min lf x.1))).setCell ⟨Ab, 1, none⟩ (Value.int IntKind.i64 (min tp x.2))).drew).heap[Bb]? = some (Obj.cells #[Value.int IntKind.i64 rg, Value.int IntKind.i64 bt] 89 (0, 0)) := by rw [drew_heap]; exact (two_other wr Ab Bb _ _ (by omega)).trans hBb
          have hC2 : (((wr.setCell ⟨Ab, 0, none⟩ (Value.int IntKind.i64 (min lf x.1))).setCell ⟨Ab, 1, none⟩ (Value.int IntKind.i64 (min tp x.2))).drew).heap[w.heap.size]? = some (Obj.cells #[Value.int IntKind.i64 0, Value.int IntKind.i64 0, Value.int IntKind.i64 0, Value.int IntKind.i64 0] 53 (0, 0)) := by rw [drew_heap]; exact (two_other wr Ab w.heap.size _ _ (by omega)).trans hB0
          have hbR2 : Below w.heap.size w ((wr.setCell ⟨Ab, 0, none⟩ (Value.int IntKind.i64 (min lf x.1))).setCell ⟨Ab, 1, none⟩ (Value.int IntKind.i64 (min tp x.2))).drew := ((hbR.setCell (p := ⟨Ab, 0, none⟩) (Nat.le_of_lt hs1) _).setCell (p := ⟨Ab, 1, none⟩) (Nat.le_of_lt hs1) _).drew
          clear ca0 ca1 fa0 fa1 cb0 cb1 fb0 fb1 s0 s1 hA hBb hB0 hbR
          generalize ((wr.setCell ⟨Ab, 0, none⟩ (Value.int IntKind.i64 (min lf x.1))).setCell ⟨Ab, 1, none⟩ (Value.int IntKind.i64 (min tp x.2))).drew = W at *
          have s0 := (hbR2.cell (p := ⟨b, o + k * 2, none⟩) hbs).trans r0
          have s1 := (hbR2.cell (p := ⟨b, o + k * 2 + 1, none⟩) hbs).trans r1
          obtain ⟨⟨cb0, cb1⟩, ⟨fb0, fb1⟩⟩ := two _ _ _ _ _ hB2
          go_wp2_with fail
          go_still_tail 17, (by kernel_rfl)
          change wpList _ _ _ _ _ W.drew
          rw [← drew_heap] at hA2 hB2 hC2
          have hbV := hbR2.drew
          clear cb0 cb1 fb0 fb1 s0 s1 hbR2
          generalize W.drew = V at *
          obtain ⟨⟨cb0, cb1⟩, ⟨fb0, fb1⟩⟩ := two _ _ _ _ _ hB2
          have hB3 : ((V.setCell ⟨Bb, 0, none⟩ (Value.int IntKind.i64 (max rg x.1))).setCell ⟨Bb, 1, none⟩ (Value.int IntKind.i64 (max bt x.2))).heap[Bb]? = some (Obj.cells #[Value.int IntKind.i64 (max rg x.1), Value.int IntKind.i64 (max bt x.2)] 89 (0, 0)) := two_set V Bb 89 _ _ _ _ hB2
          have hA3 := (two_other V Bb Ab (Value.int IntKind.i64 (max rg x.1)) (Value.int IntKind.i64 (max bt x.2)) (by omega)).trans hA2
          have hC3 := (two_other V Bb w.heap.size (Value.int IntKind.i64 (max rg x.1)) (Value.int IntKind.i64 (max bt x.2)) (by omega)).trans hC2
          have hbR3 := (hbV.setCell (p := ⟨Bb, 0, none⟩) (by show w.heap.size ≤ Bb; omega) (Value.int IntKind.i64 (max rg x.1))).setCell (p := ⟨Bb, 1, none⟩) (by show w.heap.size ≤ Bb; omega) (Value.int IntKind.i64 (max bt x.2))
          have H3 := Lib.hid (And.intro hA3 (And.intro hB3 (And.intro hC3 hbR3)))
          clear hA3 hB3 hC3 hbR3 hA2 hB2 hC2 hbV
          go_wp2_with fail
          exact ⟨⟨k + 1, by omega, by simp, H3.out.2.2.2, H3.out.2.2.1, by rw [HLS.out, HTS.out]; exact H3.out.1, by rw [HRS.out, HBS.out]; exact H3.out.2.1⟩, by simp [intOf]; omega⟩
        · have hkl : k = l.length := by omega
          subst hkl
          have hsd := HSD.out l.length (Nat.le_refl _)
          have hys := HYS.out l.length (Nat.le_refl _)
          have htr := HTR.out l.length (Nat.le_refl _)
          have hi0 := HIN.out 0 h0
          rw [← htr] at hi0
          obtain ⟨⟨c0, c1, c2, c3⟩, ⟨f0, f1, f2, f3⟩⟩ := four _ _ _ _ _ _ hB0
          generalize lefts l l.length = lf at *
          generalize rights l l.length = rg at *
          generalize tops l l.length = tp at *
          generalize bots l l.length = bt at *
          obtain ⟨a1, a2, a3, a4⟩ := hsd
          obtain ⟨y1, y2⟩ := hys
          obtain ⟨-, -, g3, g4⟩ := hi0
          clear hA hBb hB0 htr
          go_wp2_with fail
          refine bodyPost_ret (v := boxV ((lf, tp, rg - lf + 1, bt - tp + 1), true)) ?_ rfl ?_
          · simp [results, Tryd.results30, go_sem, c0, c1, c2, c3, boxV]
          · refine ⟨by rw [HB.out], ?_⟩
            exact (((hbR.setCell (p := ⟨w.heap.size, 0, none⟩) (Nat.le_refl _) _).setCell (p := ⟨w.heap.size, 1, none⟩) (Nat.le_refl _) _).setCell (p := ⟨w.heap.size, 2, none⟩) (Nat.le_refl _) _).setCell (p := ⟨w.heap.size, 3, none⟩) (Nat.le_refl _) _
end Go.Proofs.YtnpndkmcgpaibaaDoor
