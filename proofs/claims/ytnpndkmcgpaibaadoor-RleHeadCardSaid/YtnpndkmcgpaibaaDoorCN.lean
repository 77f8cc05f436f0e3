/- Print of the program walked. -/
import Derived.Test.YtnpndkmcgpaibaaDoorPC
import Derived.Test.YtnpndkmcgpaibaaDoorCL
import Derived.Deep.CutRange
set_option linter.unusedVariables false
namespace Go.Proofs.YtnpndkmcgpaibaaDoor
open Go.RowKit Go.Sort
attribute [local go_sem high] eqA89

theorem KeptW.far {w w' : World} {wb k : Nat} {v v' : Value} (h : KeptW w w' wb v v') (hk : k < w.heap.size) (hne : k ≠ wb) (hv : v.ownBlock ≠ some k) : w'.heap[k]? = w.heap[k]? ∧ v'.ownBlock ≠ some k := by
  refine ⟨h.block k hk hne hv, ?_⟩
  rcases h.row with h2 | ⟨g, h2, h3⟩
  · rw [h2]; exact hv
  · rw [h2]; intro e; cases e; omega
theorem owns_not {w : World} {base e z : Nat} {v : Value} {n : Nat} {l : List Value} (h : w.ownsRow base e z v n l) (k : Nat) (hk : k < base ∨ w.heap.size ≤ k) : v.ownBlock ≠ some k := by
  intro e
  have := h.lt k e
  omega
set_option maxHeartbeats 8000000 in
set_option maxRecDepth 100000 in
theorem print_walk (v : Value) (l : List (Int × Int)) (w : World) (hl : l.length ≤ 4611686018427387904) (hg : Good w) (hv : CRow w v l) :
    Calls Tryd.prog 24 #[v] w fun e w' => e = .returned (.tuple #[.string (S (printOf l).1), .int .i64 (printOf l).2]) ∧ Below w.heap.size w w' := by
  go_enter Tryd.func24, Tryd.ntmps24
  go_wp2_with fail
  refine (right_walk v l w hl hv).mono ?_
  rintro e w1 ⟨rfl, hb1⟩
  have hv1 := hv.below hb1
  clear hv
  cases hr : rightB l with
  | false =>
    have HE : Hid (printOf l = ([], 1)) := mkHid (by unfold printOf; rw [hr]; rfl)
    clear hr
    go_wp2_with fail
    go_ret2
    rw [HE.out]
    exact ⟨rfl, hb1⟩
  | true =>
    have HRI := Lib.hid (right_in hr)
    have HPB := Lib.hid (prFold_bnd hr (box_in hr).1 (box_in hr).2)
    have HPR : Hid (printOf l = (headText (boxW l) (boxH l) ++ 10 :: (text (prFold (boxX l) (boxY l) l).items ++ [33, 10]), 0)) := mkHid (by unfold printOf itemsOf; rw [if_pos hr])
    obtain ⟨⟨x0, x1⟩, ⟨y0, y1⟩⟩ := box_in hr
    obtain ⟨s0, s1, s2, s3⟩ := box_small hr
    have hl2 := right_len hr
    clear hr
    go_wp2_with fail
    refine (box_walk v l w1 hl hv1).mono ?_
    rintro e w2 ⟨rfl, hb2⟩
    have hv2 := hv1.below hb2
    have hb12 := hb1.trans (hb2.mono hb1.size)
    clear hb1 hb2 hv1
    have HBX : Hid (boxV (boxOf l) = .tuple #[.agg #[.int .i64 (boxX l), .int .i64 (boxY l), .int .i64 (boxW l), .int .i64 (boxH l)], .bool (boxOf l).2]) := mkHid rfl
    rw [HBX.out]
    clear HBX
    have HPS := Lib.hid (prFold_succ (boxX l) (boxY l) l)
    have HP0 : Hid (prFold (boxX l) (boxY l) (l.take 0) = ⟨[], boxX l, boxY l⟩) := mkHid rfl
    generalize (boxOf l).2 = bf
    generalize boxX l = bx at *
    generalize boxY l = by_ at *
    generalize boxW l = bw at *
    generalize boxH l = bh at *
    obtain ⟨a, cap, rfl, hcs⟩ := crow_at hv2
    have HC := Lib.hid hcs
    clear hcs hv2
    have hn4 := heap_alloc_new w2 (Obj.cells #[Value.int IntKind.i64 bx, Value.int IntKind.i64 by_, Value.int IntKind.i64 bw, Value.int IntKind.i64 bh] 53)
    have hn2 := heap_alloc_new (w2.alloc (Obj.cells #[Value.int IntKind.i64 bx, Value.int IntKind.i64 by_, Value.int IntKind.i64 bw, Value.int IntKind.i64 bh] 53)) (Obj.cells #[Value.slice none 0 0] 93)
    have hbA : Below w2.heap.size w2 ((w2.alloc (Obj.cells #[Value.int IntKind.i64 bx, Value.int IntKind.i64 by_, Value.int IntKind.i64 bw, Value.int IntKind.i64 bh] 53)).alloc (Obj.cells #[Value.slice none 0 0] 93)) := ((Below.refl _ w2).alloc (Nat.le_refl _) _).alloc (by simp) _
    have hn4' := (Below.heap_alloc (w2.alloc (Obj.cells #[Value.int IntKind.i64 bx, Value.int IntKind.i64 by_, Value.int IntKind.i64 bw, Value.int IntKind.i64 bh] 53)) (Obj.cells #[Value.slice none 0 0] 93) w2.heap.size (by simp)).trans hn4
    have hz1 : (w2.alloc (Obj.cells #[Value.int IntKind.i64 bx, Value.int IntKind.i64 by_, Value.int IntKind.i64 bw, Value.int IntKind.i64 bh] 53)).heap.size = w2.heap.size + 1 := by simp
    rw [hz1] at hn2
    clear hn4 hz1
    obtain ⟨⟨c0, c1, c2, c3⟩, ⟨f0, f1, f2, f3⟩⟩ := four _ _ _ _ _ _ hn4'
    go_wp2_with fail
    generalize ((w2.alloc (Obj.cells #[Value.int IntKind.i64 bx, Value.int IntKind.i64 by_, Value.int IntKind.i64 bw, Value.int IntKind.i64 bh] 53)).alloc (Obj.cells #[Value.slice none 0 0] 93)) = W0 at *
    go_quiet (fail)
    replace hbA := below_drewN hbA nq
    replace hn4' : (W0.drewN nq).heap[w2.heap.size]? = _ := hn4'
    replace hn2 : (W0.drewN nq).heap[w2.heap.size + 1]? = _ := hn2
    clear c0 c1 c2 c3 f0 f1 f2 f3
    generalize W0.drewN nq = W0 at *
    go_wp2_with fail
    go_loopw [7, 8, 27] (fun xv yv i wr => ∃ k : Nat, k ≤ l.length ∧ xv = .int .i64 (prFold bx by_ (l.take k)).x ∧ yv = .int .i64 (prFold bx by_ (l.take k)).y ∧ i = .int .i64 k ∧ ∃ vo : Value, wr.heap[w2.heap.size + 1]? = some (Obj.cells #[vo] 93 (0, 0)) ∧
      wr.ownsRow (w2.heap.size + 1 + 1) 37 3 vo (prFold bx by_ (l.take k)).items.length (itCells (prFold bx by_ (l.take k)).items) ∧ Below w2.heap.size w2 wr ∧
      wr.heap[w2.heap.size]? = some (Obj.cells #[Value.int IntKind.i64 bx, Value.int IntKind.i64 by_, Value.int IntKind.i64 bw, Value.int IntKind.i64 bh] 53 (0, 0))) (fun _ _ i _ => l.length - (intOf i).toNat)
    case atStart =>
      refine ⟨0, Nat.zero_le _, by rw [HP0.out], by rw [HP0.out], rfl, .slice none 0 0, hn2, ?_, hbA, hn4'⟩
      rw [HP0.out]; exact World.ownsRow_nil _ _ _ _
    case round =>
      clear hbA hn4' hn2 HP0
      obtain ⟨k, hk, rfl, rfl, rfl, vo, h2, hown, hbx, h4⟩ := hrel
      by_cases hlt : k < l.length
      · obtain ⟨b, o, rfl, hbs, q0, q1⟩ := HC.out k hlt
        have p0 := (hbx.cell (p := ⟨b, o + k * 2, none⟩) hbs).trans q0
        have p1 := (hbx.cell (p := ⟨b, o + k * 2 + 1, none⟩) hbs).trans q1
        have HST := Lib.hid (HPS.out k hlt)
        have hrg := HRI.out k hlt
        obtain ⟨⟨sx0, sx1⟩, ⟨sy0, sy1⟩, hln, hbnd⟩ := HPB.out k hk
        obtain ⟨⟨x, y⟩, hxy⟩ : ∃ c, l[k] = c := ⟨_, rfl⟩
        rw [hxy] at HST hrg q0 q1 p0 p1
        dsimp only at hrg q0 q1 p0 p1
        obtain ⟨r1, r2, r3, r4⟩ := hrg
        clear hxy q0 q1
        generalize prFold bx by_ (l.take k) = s at *
        obtain ⟨its, sx, sy⟩ := s
        dsimp only at *
        have hlt' : (k : Int) < l.length := by omega
        have HBN := Lib.hid hbnd
        clear hbnd
        have hcb : w2.heap.size + 2 ≤ wr.heap.size ∧ True := ⟨by have := (Array.getElem?_eq_some_iff.1 h2).1; omega, trivial⟩
        have hcA := heap_alloc_new wr (Obj.cells #[Value.int IntKind.i64 x, Value.int IntKind.i64 y] 89)
        have hownA := hown.alloc (Obj.cells #[Value.int IntKind.i64 x, Value.int IntKind.i64 y] 89)
        have hbxA := hbx.alloc hbx.size (Obj.cells #[Value.int IntKind.i64 x, Value.int IntKind.i64 y] 89)
        have h4A := (Below.heap_alloc wr (Obj.cells #[Value.int IntKind.i64 x, Value.int IntKind.i64 y] 89) w2.heap.size (by omega)).trans h4
        have h2A := (Below.heap_alloc wr (Obj.cells #[Value.int IntKind.i64 x, Value.int IntKind.i64 y] 89) (w2.heap.size + 1) (by omega)).trans h2
        have hvcA := owns_not hown wr.heap.size (.inr (Nat.le_refl _))
        by_cases hyl : sy < y
        · have HSTL := HST.out.trans (prStep_lt hyl)
          replace HSTL := mkHid HSTL
          have hdy : decide (sy < y) = true := by simpa using hyl
          go_upto_region 9 with fail
          clear hown hbx h4 h2 p0 p1

          have hc := hcA
          have hown := hownA
          have hbx := hbxA
          have h4 := h4A
          have h2 := h2A
          have hvc := hvcA
          clear hcA hownA hbxA h4A h2A hvcA
          generalize (wr.alloc (Obj.cells #[Value.int IntKind.i64 x, Value.int IntKind.i64 y] 89)) = W at *
          generalize wr.heap.size = cb at *

          obtain ⟨⟨a0, a1⟩, ⟨e0, e1⟩⟩ := two _ _ _ _ _ hc
          obtain ⟨⟨c0, c1, c2, c3⟩, ⟨f0, f1, f2, f3⟩⟩ := four _ _ _ _ _ _ h4
          go_wp2_with fail
          clear a0 a1 e0 e1 c0 c1 c2 c3 f0 f1 f2 f3

          refine (wput_any vo its 36 (y - sy) (w2.heap.size + 1) W (by omega) h2 hown (by omega) (by omega) (fun z hz => by have := HBN.out z hz; omega)).mono ?_
          rintro e w' ⟨rfl, vp, h2', hown', hkw⟩
          have hln' := putIt_len its 36 ((y - sy))
          have HB1 := Lib.hid (putIt_bnd (t := 36) (n := (y - sy)) (C := 4398046511104) HBN.out (by omega) (by omega))
          have hcb : w2.heap.size + 2 ≤ cb ∧ cb < W.heap.size := ⟨hcb.1, (Array.getElem?_eq_some_iff.1 hc).1⟩
          replace hbx := hbx.trans ((hkw.below (by omega) (fun k hk => (hown.lt k hk).1)).mono (by omega))
          replace h4 := (hkw.far (k := w2.heap.size) (by omega) (by omega) (owns_not hown _ (by omega))).1.trans h4
          have hvc' := (hkw.far (k := cb) (by omega) (by omega) hvc).2
          replace hc := (hkw.far (k := cb) (by omega) (by omega) hvc).1.trans hc
          clear hown hkw h2 hvc
          have hown := hown'
          have h2 := h2'
          have hvc := hvc'
          clear hown' h2' hvc'
          generalize w' = W at *
          generalize vp = vo at *

          generalize (putIt its 36 (y - sy)) = it1 at *

          obtain ⟨⟨a0, a1⟩, ⟨e0, e1⟩⟩ := two _ _ _ _ _ hc
          obtain ⟨⟨c0, c1, c2, c3⟩, ⟨f0, f1, f2, f3⟩⟩ := four _ _ _ _ _ _ h4
          go_wp2_with fail
          go_quiet (fail)
          replace hown := owns_drew hown nq
          replace hbx := below_drewN hbx nq
          replace h4 : (W.drewN nq).heap[w2.heap.size]? = _ := h4
          replace h2 : (W.drewN nq).heap[w2.heap.size + 1]? = _ := h2
          replace hc : (W.drewN nq).heap[cb]? = _ := hc
          clear a0 a1 e0 e1 c0 c1 c2 c3 f0 f1 f2 f3

          generalize W.drewN nq = W at *

          obtain ⟨⟨a0, a1⟩, ⟨e0, e1⟩⟩ := two _ _ _ _ _ hc
          obtain ⟨⟨c0, c1, c2, c3⟩, ⟨f0, f1, f2, f3⟩⟩ := four _ _ _ _ _ _ h4
          go_wp2_with fail
          clear a0 a1 e0 e1 c0 c1 c2 c3 f0 f1 f2 f3

          refine (wput_any vo it1 98 (x - bx) (w2.heap.size + 1) W (by omega) h2 hown (by omega) (by omega) (fun z hz => by have := HB1.out z hz; omega)).mono ?_
          rintro e w' ⟨rfl, vp, h2', hown', hkw⟩
          have hln' := putIt_len it1 98 ((x - bx))
          have HB2 := Lib.hid (putIt_bnd (t := 98) (n := (x - bx)) (C := 4398046511104) HB1.out (by omega) (by omega))
          have hcb : w2.heap.size + 2 ≤ cb ∧ cb < W.heap.size := ⟨hcb.1, (Array.getElem?_eq_some_iff.1 hc).1⟩
          replace hbx := hbx.trans ((hkw.below (by omega) (fun k hk => (hown.lt k hk).1)).mono (by omega))
          replace h4 := (hkw.far (k := w2.heap.size) (by omega) (by omega) (owns_not hown _ (by omega))).1.trans h4
          have hvc' := (hkw.far (k := cb) (by omega) (by omega) hvc).2
          replace hc := (hkw.far (k := cb) (by omega) (by omega) hvc).1.trans hc
          clear hown hkw h2 hvc
          have hown := hown'
          have h2 := h2'
          have hvc := hvc'
          clear hown' h2' hvc'
          generalize w' = W at *
          generalize vp = vo at *

          generalize (putIt it1 98 (x - bx)) = it2 at *

          obtain ⟨⟨a0, a1⟩, ⟨e0, e1⟩⟩ := two _ _ _ _ _ hc
          obtain ⟨⟨c0, c1, c2, c3⟩, ⟨f0, f1, f2, f3⟩⟩ := four _ _ _ _ _ _ h4
          go_wp2_with fail
          clear a0 a1 e0 e1 c0 c1 c2 c3 f0 f1 f2 f3

          refine (wput_any vo it2 111 1 (w2.heap.size + 1) W (by omega) h2 hown (by omega) (by omega) (fun z hz => by have := HB2.out z hz; omega)).mono ?_
          rintro e w' ⟨rfl, vp, h2', hown', hkw⟩
          have hln' := putIt_len it2 111 (1)
          have HB3 := Lib.hid (putIt_bnd (t := 111) (n := 1) (C := 4398046511104) HB2.out (by omega) (by omega))
          have hcb : w2.heap.size + 2 ≤ cb ∧ cb < W.heap.size := ⟨hcb.1, (Array.getElem?_eq_some_iff.1 hc).1⟩
          replace hbx := hbx.trans ((hkw.below (by omega) (fun k hk => (hown.lt k hk).1)).mono (by omega))
          replace h4 := (hkw.far (k := w2.heap.size) (by omega) (by omega) (owns_not hown _ (by omega))).1.trans h4
          have hvc' := (hkw.far (k := cb) (by omega) (by omega) hvc).2
          replace hc := (hkw.far (k := cb) (by omega) (by omega) hvc).1.trans hc
          clear hown hkw h2 hvc
          have hown := hown'
          have h2 := h2'
          have hvc := hvc'
          clear hown' h2' hvc'
          generalize w' = W at *
          generalize vp = vo at *

          generalize (putIt it2 111 1) = it3 at *

          obtain ⟨⟨a0, a1⟩, ⟨e0, e1⟩⟩ := two _ _ _ _ _ hc
          obtain ⟨⟨c0, c1, c2, c3⟩, ⟨f0, f1, f2, f3⟩⟩ := four _ _ _ _ _ _ h4

          go_wp2_with fail
          clear a0 a1 e0 e1 c0 c1 c2 c3 f0 f1 f2 f3

          exact ⟨⟨k + 1, by omega, by rw [HSTL.out], by rw [HSTL.out], by simp, vo, h2, by rw [HSTL.out]; exact hown, hbx, h4⟩, by simp [intOf]; omega⟩
        · have HSTL := HST.out.trans (prStep_ge hyl)
          replace HSTL := mkHid HSTL
          have hdy : decide (sy < y) = false := by simpa using hyl
          go_upto_region 9 with fail
          clear hown hbx h4 h2 p0 p1

          have hc := hcA
          have hown := hownA
          have hbx := hbxA
          have h4 := h4A
          have h2 := h2A
          have hvc := hvcA
          clear hcA hownA hbxA h4A h2A hvcA
          generalize (wr.alloc (Obj.cells #[Value.int IntKind.i64 x, Value.int IntKind.i64 y] 89)) = W at *
          generalize wr.heap.size = cb at *

          obtain ⟨⟨a0, a1⟩, ⟨e0, e1⟩⟩ := two _ _ _ _ _ hc
          obtain ⟨⟨c0, c1, c2, c3⟩, ⟨f0, f1, f2, f3⟩⟩ := four _ _ _ _ _ _ h4
          go_wp2_with fail
          clear a0 a1 e0 e1 c0 c1 c2 c3 f0 f1 f2 f3

          refine (wput_any vo its 98 (x - sx) (w2.heap.size + 1) W (by omega) h2 hown (by omega) (by omega) (fun z hz => by have := HBN.out z hz; omega)).mono ?_
          rintro e w' ⟨rfl, vp, h2', hown', hkw⟩
          have hln' := putIt_len its 98 ((x - sx))
          have HB2 := Lib.hid (putIt_bnd (t := 98) (n := (x - sx)) (C := 4398046511104) HBN.out (by omega) (by omega))
          have hcb : w2.heap.size + 2 ≤ cb ∧ cb < W.heap.size := ⟨hcb.1, (Array.getElem?_eq_some_iff.1 hc).1⟩
          replace hbx := hbx.trans ((hkw.below (by omega) (fun k hk => (hown.lt k hk).1)).mono (by omega))
          replace h4 := (hkw.far (k := w2.heap.size) (by omega) (by omega) (owns_not hown _ (by omega))).1.trans h4
          have hvc' := (hkw.far (k := cb) (by omega) (by omega) hvc).2
          replace hc := (hkw.far (k := cb) (by omega) (by omega) hvc).1.trans hc
          clear hown hkw h2 hvc
          have hown := hown'
          have h2 := h2'
          have hvc := hvc'
          clear hown' h2' hvc'
          generalize w' = W at *
          generalize vp = vo at *

          generalize (putIt its 98 (x - sx)) = it2 at *

          obtain ⟨⟨a0, a1⟩, ⟨e0, e1⟩⟩ := two _ _ _ _ _ hc
          obtain ⟨⟨c0, c1, c2, c3⟩, ⟨f0, f1, f2, f3⟩⟩ := four _ _ _ _ _ _ h4
          go_wp2_with fail
          clear a0 a1 e0 e1 c0 c1 c2 c3 f0 f1 f2 f3

          refine (wput_any vo it2 111 1 (w2.heap.size + 1) W (by omega) h2 hown (by omega) (by omega) (fun z hz => by have := HB2.out z hz; omega)).mono ?_
          rintro e w' ⟨rfl, vp, h2', hown', hkw⟩
          have hln' := putIt_len it2 111 (1)
          have HB3 := Lib.hid (putIt_bnd (t := 111) (n := 1) (C := 4398046511104) HB2.out (by omega) (by omega))
          have hcb : w2.heap.size + 2 ≤ cb ∧ cb < W.heap.size := ⟨hcb.1, (Array.getElem?_eq_some_iff.1 hc).1⟩
          replace hbx := hbx.trans ((hkw.below (by omega) (fun k hk => (hown.lt k hk).1)).mono (by omega))
          replace h4 := (hkw.far (k := w2.heap.size) (by omega) (by omega) (owns_not hown _ (by omega))).1.trans h4
          have hvc' := (hkw.far (k := cb) (by omega) (by omega) hvc).2
          replace hc := (hkw.far (k := cb) (by omega) (by omega) hvc).1.trans hc
          clear hown hkw h2 hvc
          have hown := hown'
          have h2 := h2'
          have hvc := hvc'
          clear hown' h2' hvc'
          generalize w' = W at *
          generalize vp = vo at *

          generalize (putIt it2 111 1) = it3 at *

          obtain ⟨⟨a0, a1⟩, ⟨e0, e1⟩⟩ := two _ _ _ _ _ hc
          obtain ⟨⟨c0, c1, c2, c3⟩, ⟨f0, f1, f2, f3⟩⟩ := four _ _ _ _ _ _ h4

          go_wp2_with fail
          clear a0 a1 e0 e1 c0 c1 c2 c3 f0 f1 f2 f3

          exact ⟨⟨k + 1, by omega, by rw [HSTL.out], by rw [HSTL.out], by simp, vo, h2, by rw [HSTL.out]; exact hown, hbx, h4⟩, by simp [intOf]; omega⟩
      · have hkl : k = l.length := by omega
        subst hkl
        have hlt' : ¬ ((l.length : Nat) : Int) < l.length := by omega
        rw [List.take_length] at *
        have hln := (HPB.out l.length (Nat.le_refl _)).len
        rw [List.take_length] at hln
        generalize (prFold bx by_ l).x = sx at *
        generalize (prFold bx by_ l).y = sy at *
        generalize (prFold bx by_ l).items = its at *
        obtain ⟨⟨c0, c1, c2, c3⟩, ⟨f0, f1, f2, f3⟩⟩ := four _ _ _ _ _ _ h4
        obtain ⟨d0, _⟩ := one_cell _ _ _ _ h2
        have hrow := itrow_of_owns hown
        have hbE := hb12.trans (hbx.mono hb12.size)
        have c2' := cell_regrown c2
        have c3' := cell_regrown c3
        have d0' := cell_regrown d0
        have HG : Hid (∀ d os, Good (grow (redrawn wr d) os)) := mkHid fun d os => hg.below (hbE.trans ((below_regrown wr d os).mono hbE.size)) hg.2
        have z1 := S_size (dec bw.toNat)
        have z1' := dec_len bw.toNat 18 (by omega)
        have z2 := S_size (dec bh.toNat)
        have z2' := dec_len bh.toNat 18 (by omega)
        have z3 := S_size (text its)
        have z3' := text_len its
        have k1 : ∀ d os, Calls Tryd.prog 44 #[.int .i64 bw] (grow (redrawn wr d) os) fun e w'' => e = .returned (.string (S (dec bw.toNat))) ∧ ∃ p : Regrown, w'' = grow (redrawn wr p.d) p.os := fun d os =>
          Calls.regrown_of (ctext_any bw (grow (redrawn wr d) os) s0 (by omega) (HG.out d os))
        have k2 : ∀ d os, Calls Tryd.prog 44 #[.int .i64 bh] (grow (redrawn wr d) os) fun e w'' => e = .returned (.string (S (dec bh.toNat))) ∧ ∃ p : Regrown, w'' = grow (redrawn wr p.d) p.os := fun d os =>
          Calls.regrown_of (ctext_any bh (grow (redrawn wr d) os) s2 (by omega) (HG.out d os))
        have k3 : ∀ d os, Calls Tryd.prog 21 #[vo] (grow (redrawn wr d) os) fun e w'' => e = .returned (.string (S (text its))) ∧ ∃ p : Regrown, w'' = grow (redrawn wr p.d) p.os := fun d os =>
          Calls.regrown_of (text_walk vo its (grow (redrawn wr d) os) (by omega) (HG.out d os) (hrow.below (below_regrown wr d os)))
        have hA : (S (dec bw.toNat)).size ≤ 19 := by omega
        have hB : (S (dec bh.toNat)).size ≤ 19 := by omega
        have hT : (S (text its)).size ≤ 100000 := by omega
        obtain ⟨A, eA⟩ : ∃ A, S (dec bw.toNat) = A := ⟨_, rfl⟩
        obtain ⟨B, eB⟩ : ∃ B, S (dec bh.toNat) = B := ⟨_, rfl⟩
        obtain ⟨T, eT⟩ : ∃ T, S (text its) = T := ⟨_, rfl⟩
        rw [eA] at k1 hA
        rw [eB] at k2 hB
        rw [eT] at k3 hT
        have EA := mkHid eA
        have EB := mkHid eB
        have ET := mkHid eT
        have hvs := owns_slice hown
        obtain ⟨va, vc, rfl⟩ := hvs
        clear eA eB eT z1 z1' z2 z2' z3 z3' HRI HPB HPS HC h4 h2 hown hbx c0 c1 c2 c3 f0 f1 f2 f3 hrow x0 x1 y0 y1 hln hl d0
        go_wp2_with fail
        refine wp_region_quiet_below mixed (by kernel_rfl) ?_
        iterate 3 (go_big_quiet_step (exact k1 _ _))
        iterate 5 (go_big_quiet_step (exact k2 _ _))
        repeat (go_big_quiet_step (exact k3 _ _))
        refine wpQuiet_nil ?_
        intro _ hw'
        obtain ⟨⟨dq, osq⟩, hw''⟩ := hw'
        subst hw''
        have hbF := hbE.trans ((below_regrown wr dq osq).mono hbE.size)
        go_wp2_with fail
        go_ret2
        rw [HPR.out]
        refine ⟨?_, hbF⟩
        have hfin : (⟨#[120, 32, 61, 32]⟩ ++ A ++ ⟨#[44, 32, 121, 32, 61, 32]⟩ ++ B ++ ⟨#[44, 32, 114, 117, 108, 101, 32, 61, 32, 66, 51, 47, 83, 50, 51]⟩ ++ ⟨#[10]⟩ ++ T ++ ⟨#[33, 10]⟩ : ByteArray) = S (headText bw bh ++ 10 :: (text its ++ [33, 10])) := by
          rw [← EA.out, ← EB.out, ← ET.out]
          show S xEq ++ S (dec bw.toNat) ++ S yEq ++ S (dec bh.toNat) ++ S ruleS ++ S [10] ++ S (text its) ++ S [33, 10] = _
          simp only [S_append, headText]
          simp [List.append_assoc]
        rw [← hfin]
        rfl
end Go.Proofs.YtnpndkmcgpaibaaDoor
