/- Print of the reference walked. -/
import Derived.Test.YtnpndkmcgpaibaaDoorPC
set_option linter.unusedVariables false
namespace Go.Proofs.YtnpndkmcgpaibaaDoor
open Go.RowKit Go.Sort
attribute [local go_sem high] eqA89

theorem owns_set {w : World} {base sz n : Nat} {E : TypeId} {v u : Value} {p : Addr} {xs : List Value} (h : w.ownsRow base E sz v n xs) (hb : p.block < base) : (w.setCell p u).ownsRow base E sz v n xs := by
  refine ⟨h.1, ?_⟩
  rcases h.2 with h2 | ⟨g, cap, cur, hv, hg, hh, r⟩
  · exact .inl h2
  · exact .inr ⟨g, cap, cur, hv, hg, (Below.heap_setCell w p u g (by omega)).trans hh, r⟩
set_option maxHeartbeats 8000000 in
set_option maxRecDepth 100000 in
theorem rprint_walk (v : Value) (l : List (Int × Int)) (w : World) (hl : l.length ≤ 4611686018427387904) (hv : CRow w v l) :
    Calls Tryd.prog 25 #[v] w fun e w' => e = .returned (.tuple #[.string (S (printOf l).1), .int .i64 (printOf l).2]) ∧ Below w.heap.size w w' := by
  go_enter Tryd.func25, Tryd.ntmps25
  go_wp2_with fail
  refine (rright_walk v l w hl hv).mono ?_
  rintro e w1 ⟨rfl, hb1⟩
  have hv1 := hv.below hb1
  clear hv
  cases hr : rightB l with
  | false =>
    have HE : Hid (printOf l = ([], 1)) := mkHid (by unfold printOf; rw [hr]; rfl)
    clear hr
    go_wp2_with fail
    go_ret2
    rw [HE.out]
    exact ⟨rfl, hb1⟩
  | true =>
    have HRI := Lib.hid (right_in hr)
    have HPB := Lib.hid (prFold_bnd hr (box_in hr).1 (box_in hr).2)
    have HPR : Hid (printOf l = (headText (boxW l) (boxH l) ++ 10 :: (text (prFold (boxX l) (boxY l) l).items ++ [33, 10]), 0)) := mkHid (by unfold printOf itemsOf; rw [if_pos hr])
    obtain ⟨⟨x0, x1⟩, ⟨y0, y1⟩⟩ := box_in hr
    obtain ⟨s0, s1, s2, s3⟩ := box_small hr
    have hl2 := right_len hr
    clear hr
    go_wp2_with fail
    refine (rbox_walk v l w1 hl hv1).mono ?_
    rintro e w2 ⟨rfl, hb2⟩
    have hv2 := hv1.below hb2
    have hb12 := hb1.trans (hb2.mono hb1.size)
    clear hb1 hb2 hv1
    have HBX : Hid (boxV (boxOf l) = .tuple #[.agg #[.int .i64 (boxX l), .int .i64 (boxY l), .int .i64 (boxW l), .int .i64 (boxH l)], .bool (boxOf l).2]) := mkHid rfl
    rw [HBX.out]
    clear HBX
    have HPS := Lib.hid (prFold_succ (boxX l) (boxY l) l)
    have HP0 : Hid (prFold (boxX l) (boxY l) (l.take 0) = ⟨[], boxX l, boxY l⟩) := mkHid rfl
    generalize (boxOf l).2 = bf
    generalize boxX l = bx at *
    generalize boxY l = by_ at *
    generalize boxW l = bw at *
    generalize boxH l = bh at *
    obtain ⟨a, cap, rfl, hcs⟩ := crow_at hv2
    have HC := Lib.hid hcs
    clear hcs hv2
    have hn4 := heap_alloc_new w2 (Obj.cells #[Value.int IntKind.i64 bx, Value.int IntKind.i64 by_, Value.int IntKind.i64 bw, Value.int IntKind.i64 bh] 53)
    have hn2 := heap_alloc_new (w2.alloc (Obj.cells #[Value.int IntKind.i64 bx, Value.int IntKind.i64 by_, Value.int IntKind.i64 bw, Value.int IntKind.i64 bh] 53)) (Obj.cells #[Value.int IntKind.i64 bx, Value.int IntKind.i64 by_] 89)
    have hbA : Below w2.heap.size w2 ((w2.alloc (Obj.cells #[Value.int IntKind.i64 bx, Value.int IntKind.i64 by_, Value.int IntKind.i64 bw, Value.int IntKind.i64 bh] 53)).alloc (Obj.cells #[Value.int IntKind.i64 bx, Value.int IntKind.i64 by_] 89)) := ((Below.refl _ w2).alloc (Nat.le_refl _) _).alloc (by simp) _
    have hn4' := (Below.heap_alloc (w2.alloc (Obj.cells #[Value.int IntKind.i64 bx, Value.int IntKind.i64 by_, Value.int IntKind.i64 bw, Value.int IntKind.i64 bh] 53)) (Obj.cells #[Value.int IntKind.i64 bx, Value.int IntKind.i64 by_] 89) w2.heap.size (by simp)).trans hn4
    have hz1 : (w2.alloc (Obj.cells #[Value.int IntKind.i64 bx, Value.int IntKind.i64 by_, Value.int IntKind.i64 bw, Value.int IntKind.i64 bh] 53)).heap.size = w2.heap.size + 1 := by simp
    rw [hz1] at hn2
    clear hn4 hz1
    go_wp2_with fail
    generalize ((w2.alloc (Obj.cells #[Value.int IntKind.i64 bx, Value.int IntKind.i64 by_, Value.int IntKind.i64 bw, Value.int IntKind.i64 bh] 53)).alloc (Obj.cells #[Value.int IntKind.i64 bx, Value.int IntKind.i64 by_] 89)) = W0 at *
    go_loopw [6, 8] (fun vo i wr => ∃ k : Nat, k ≤ l.length ∧ i = .int .i64 k ∧ wr.ownsRow (w2.heap.size + 2) 37 3 vo (prFold bx by_ (l.take k)).items.length (itCells (prFold bx by_ (l.take k)).items) ∧ Below w2.heap.size w2 wr ∧
      wr.heap[w2.heap.size]? = some (Obj.cells #[Value.int IntKind.i64 bx, Value.int IntKind.i64 by_, Value.int IntKind.i64 bw, Value.int IntKind.i64 bh] 53 (0, 0)) ∧
      wr.heap[w2.heap.size + 1]? = some (Obj.cells #[Value.int IntKind.i64 (prFold bx by_ (l.take k)).x, Value.int IntKind.i64 (prFold bx by_ (l.take k)).y] 89 (0, 0))) (fun _ i _ => l.length - (intOf i).toNat)
    case atStart =>
      refine ⟨0, Nat.zero_le _, rfl, ?_, hbA, hn4', ?_⟩
      · rw [HP0.out]; exact World.ownsRow_nil _ _ _ _
      · rw [HP0.out]; exact hn2
    case round =>
      clear hbA hn4' hn2 HP0
      obtain ⟨k, hk, rfl, hown, hbx, h4, h2⟩ := hrel
      by_cases hlt : k < l.length
      · obtain ⟨b, o, rfl, hbs, q0, q1⟩ := HC.out k hlt
        have HST := Lib.hid (HPS.out k hlt)
        have hrg := HRI.out k hlt
        obtain ⟨⟨sx0, sx1⟩, ⟨sy0, sy1⟩, hln, hbnd⟩ := HPB.out k hk
        obtain ⟨⟨x, y⟩, hxy⟩ : ∃ c, l[k] = c := ⟨_, rfl⟩
        rw [hxy] at HST hrg q0 q1
        dsimp only at hrg q0 q1
        obtain ⟨r1, r2, r3, r4⟩ := hrg
        clear hxy
        generalize prFold bx by_ (l.take k) = s at *
        obtain ⟨its, sx, sy⟩ := s
        dsimp only at *
        have hlt' : (k : Int) < l.length := by omega
        have HBN := Lib.hid hbnd
        clear hbnd
        have p0 := (hbx.cell (p := ⟨b, o + k * 2, none⟩) hbs).trans q0
        have p1 := (hbx.cell (p := ⟨b, o + k * 2 + 1, none⟩) hbs).trans q1
        obtain ⟨⟨a0, a1⟩, ⟨e0, e1⟩⟩ := two _ _ _ _ _ h2
        obtain ⟨⟨c0, c1, c2, c3⟩, ⟨f0, f1, f2, f3⟩⟩ := four _ _ _ _ _ _ h4
        by_cases hyl : sy < y
        · have HSTL := HST.out.trans (prStep_lt hyl)
          replace HSTL := mkHid HSTL
          have hdy : decide (sy < y) = true := by simpa using hyl
          go_wp2_with fail
          go_quiet (fail)
          replace hown := owns_drew hown nq
          replace hbx := below_drewN hbx nq
          replace h4 : (wr.drewN nq).heap[w2.heap.size]? = _ := h4
          replace h2 : (wr.drewN nq).heap[w2.heap.size + 1]? = _ := h2
          clear p0 p1 a0 a1 e0 e1 c0 c1 c2 c3 f0 f1 f2 f3

          generalize wr.drewN nq = W at *

          have p0 := (hbx.cell (p := ⟨b, o + k * 2, none⟩) hbs).trans q0
          have p1 := (hbx.cell (p := ⟨b, o + k * 2 + 1, none⟩) hbs).trans q1
          obtain ⟨⟨a0, a1⟩, ⟨e0, e1⟩⟩ := two _ _ _ _ _ h2
          obtain ⟨⟨c0, c1, c2, c3⟩, ⟨f0, f1, f2, f3⟩⟩ := four _ _ _ _ _ _ h4
          go_wp2_with fail

          go_still_tail 9, (by kernel_rfl)
          repeat still_step
          change wpList _ _ _ _ _ W.drew
          replace hown := hown.drew
          replace hbx := hbx.drew
          replace h4 : W.drew.heap[w2.heap.size]? = _ := h4
          replace h2 : W.drew.heap[w2.heap.size + 1]? = _ := h2
          clear p0 p1 a0 a1 e0 e1 c0 c1 c2 c3 f0 f1 f2 f3
          generalize W.drew = W at *
          go_wp2_with fail

          have hs2 : w2.heap.size + 2 ≤ W.heap.size := by have := (Array.getElem?_eq_some_iff.1 h2).1; omega
          refine (rput_any _ its 36 (y - sy) (w2.heap.size + 2) W (by omega) hown hs2 (by omega) (by omega) (fun z hz => by have := HBN.out z hz; omega)).mono ?_
          rintro e w' ⟨vp, rfl, hown', hb'⟩
          have hln' := putIt_len its 36 ((y - sy))
          have HB1 := Lib.hid (putIt_bnd (t := 36) (n := (y - sy)) (C := 4398046511104) HBN.out (by omega) (by omega))
          replace hbx := hbx.trans (hb'.mono (by omega))
          replace h4 := (hb'.block w2.heap.size (by omega)).trans h4
          replace h2 := (hb'.block (w2.heap.size + 1) (by omega)).trans h2
          clear hown hb' hs2
          have hown := hown'
          clear hown'
          generalize w' = W at *

          generalize (putIt its 36 (y - sy)) = it1 at *

          have p0 := (hbx.cell (p := ⟨b, o + k * 2, none⟩) hbs).trans q0
          have p1 := (hbx.cell (p := ⟨b, o + k * 2 + 1, none⟩) hbs).trans q1
          obtain ⟨⟨a0, a1⟩, ⟨e0, e1⟩⟩ := two _ _ _ _ _ h2
          obtain ⟨⟨c0, c1, c2, c3⟩, ⟨f0, f1, f2, f3⟩⟩ := four _ _ _ _ _ _ h4
          go_wp2_with fail

          go_still_tail 8, (by kernel_rfl)
          repeat still_step
          change wpList _ _ _ _ _ W.drew
          replace hown := hown.drew
          replace hbx := hbx.drew
          replace h4 : W.drew.heap[w2.heap.size]? = _ := h4
          replace h2 : W.drew.heap[w2.heap.size + 1]? = _ := h2
          clear p0 p1 a0 a1 e0 e1 c0 c1 c2 c3 f0 f1 f2 f3
          generalize W.drew = W at *

          obtain ⟨⟨a0, a1⟩, ⟨e0, e1⟩⟩ := two _ _ _ _ _ h2
          go_wp2_with fail
          replace hown := owns_set (p := ⟨w2.heap.size + 1, 1, none⟩) (u := .int .i64 y) (owns_set (p := ⟨w2.heap.size + 1, 0, none⟩) (u := .int .i64 bx) hown (by simp)) (by simp)
          replace hbx := (hbx.setCell (p := ⟨w2.heap.size + 1, 0, none⟩) (by simp) (.int .i64 bx)).setCell (p := ⟨w2.heap.size + 1, 1, none⟩) (by simp) (.int .i64 y)
          replace h4 := (two_other W (w2.heap.size + 1) w2.heap.size (.int .i64 bx) (.int .i64 y) (by omega)).trans h4
          replace h2 := two_set W (w2.heap.size + 1) 89 _ _ (.int .i64 bx) (.int .i64 y) h2
          clear a0 a1 e0 e1
          generalize ((W.setCell ⟨w2.heap.size + 1, 0, none⟩ (.int .i64 bx)).setCell ⟨w2.heap.size + 1, 1, none⟩ (.int .i64 y)) = W at *

          have p0 := (hbx.cell (p := ⟨b, o + k * 2, none⟩) hbs).trans q0
          have p1 := (hbx.cell (p := ⟨b, o + k * 2 + 1, none⟩) hbs).trans q1
          obtain ⟨⟨a0, a1⟩, ⟨e0, e1⟩⟩ := two _ _ _ _ _ h2
          obtain ⟨⟨c0, c1, c2, c3⟩, ⟨f0, f1, f2, f3⟩⟩ := four _ _ _ _ _ _ h4
          go_wp2_with fail

          go_still_tail 9, (by kernel_rfl)
          repeat still_step
          change wpList _ _ _ _ _ W.drew
          replace hown := hown.drew
          replace hbx := hbx.drew
          replace h4 : W.drew.heap[w2.heap.size]? = _ := h4
          replace h2 : W.drew.heap[w2.heap.size + 1]? = _ := h2
          clear p0 p1 a0 a1 e0 e1 c0 c1 c2 c3 f0 f1 f2 f3
          generalize W.drew = W at *
          go_wp2_with fail

          have hs2 : w2.heap.size + 2 ≤ W.heap.size := by have := (Array.getElem?_eq_some_iff.1 h2).1; omega
          refine (rput_any _ it1 98 (x - bx) (w2.heap.size + 2) W (by omega) hown hs2 (by omega) (by omega) (fun z hz => by have := HB1.out z hz; omega)).mono ?_
          rintro e w' ⟨vp, rfl, hown', hb'⟩
          have hln' := putIt_len it1 98 ((x - bx))
          have HB2 := Lib.hid (putIt_bnd (t := 98) (n := (x - bx)) (C := 4398046511104) HB1.out (by omega) (by omega))
          replace hbx := hbx.trans (hb'.mono (by omega))
          replace h4 := (hb'.block w2.heap.size (by omega)).trans h4
          replace h2 := (hb'.block (w2.heap.size + 1) (by omega)).trans h2
          clear hown hb' hs2
          have hown := hown'
          clear hown'
          generalize w' = W at *

          generalize (putIt it1 98 (x - bx)) = it2 at *
          go_wp2_with fail

          have hs2 : w2.heap.size + 2 ≤ W.heap.size := by have := (Array.getElem?_eq_some_iff.1 h2).1; omega
          refine (rput_any _ it2 111 1 (w2.heap.size + 2) W (by omega) hown hs2 (by omega) (by omega) (fun z hz => by have := HB2.out z hz; omega)).mono ?_
          rintro e w' ⟨vp, rfl, hown', hb'⟩
          have hln' := putIt_len it2 111 (1)
          have HB3 := Lib.hid (putIt_bnd (t := 111) (n := 1) (C := 4398046511104) HB2.out (by omega) (by omega))
          replace hbx := hbx.trans (hb'.mono (by omega))
          replace h4 := (hb'.block w2.heap.size (by omega)).trans h4
          replace h2 := (hb'.block (w2.heap.size + 1) (by omega)).trans h2
          clear hown hb' hs2
          have hown := hown'
          clear hown'
          generalize w' = W at *

          generalize (putIt it2 111 1) = it3 at *

          have p0 := (hbx.cell (p := ⟨b, o + k * 2, none⟩) hbs).trans q0
          have p1 := (hbx.cell (p := ⟨b, o + k * 2 + 1, none⟩) hbs).trans q1
          obtain ⟨⟨a0, a1⟩, ⟨e0, e1⟩⟩ := two _ _ _ _ _ h2
          obtain ⟨⟨c0, c1, c2, c3⟩, ⟨f0, f1, f2, f3⟩⟩ := four _ _ _ _ _ _ h4

          go_wp2_with fail
          have h2' := heap_setCell_same W (w2.heap.size + 1) 0 _ 89 (.int .i64 (x + 1)) h2
          have h4' := (Below.heap_setCell W ⟨w2.heap.size + 1, 0, none⟩ (.int .i64 (x + 1)) w2.heap.size (by simp)).trans h4
          have hown' := owns_set (p := ⟨w2.heap.size + 1, 0, none⟩) (u := .int .i64 (x + 1)) hown (by simp)
          have hbx' := hbx.setCell (p := ⟨w2.heap.size + 1, 0, none⟩) (by simp) (.int .i64 (x + 1))
          clear p0 p1 a0 a1 e0 e1 c0 c1 c2 c3 f0 f1 f2 f3

          clear hown hbx h2 h4
          exact ⟨⟨k + 1, by omega, by simp, by rw [HSTL.out]; exact hown', hbx', h4', by rw [HSTL.out]; exact h2'⟩, by simp [intOf]; omega⟩
        · have HSTL := HST.out.trans (prStep_ge hyl)
          replace HSTL := mkHid HSTL
          have hdy : decide (sy < y) = false := by simpa using hyl
          go_wp2_with fail
          go_quiet (fail)
          replace hown := owns_drew hown nq
          replace hbx := below_drewN hbx nq
          replace h4 : (wr.drewN nq).heap[w2.heap.size]? = _ := h4
          replace h2 : (wr.drewN nq).heap[w2.heap.size + 1]? = _ := h2
          clear p0 p1 a0 a1 e0 e1 c0 c1 c2 c3 f0 f1 f2 f3

          generalize wr.drewN nq = W at *

          have p0 := (hbx.cell (p := ⟨b, o + k * 2, none⟩) hbs).trans q0
          have p1 := (hbx.cell (p := ⟨b, o + k * 2 + 1, none⟩) hbs).trans q1
          obtain ⟨⟨a0, a1⟩, ⟨e0, e1⟩⟩ := two _ _ _ _ _ h2
          obtain ⟨⟨c0, c1, c2, c3⟩, ⟨f0, f1, f2, f3⟩⟩ := four _ _ _ _ _ _ h4
          go_wp2_with fail

          go_still_tail 9, (by kernel_rfl)
          repeat still_step
          change wpList _ _ _ _ _ W.drew
          replace hown := hown.drew
          replace hbx := hbx.drew
          replace h4 : W.drew.heap[w2.heap.size]? = _ := h4
          replace h2 : W.drew.heap[w2.heap.size + 1]? = _ := h2
          clear p0 p1 a0 a1 e0 e1 c0 c1 c2 c3 f0 f1 f2 f3
          generalize W.drew = W at *
          go_wp2_with fail

          have hs2 : w2.heap.size + 2 ≤ W.heap.size := by have := (Array.getElem?_eq_some_iff.1 h2).1; omega
          refine (rput_any _ its 98 (x - sx) (w2.heap.size + 2) W (by omega) hown hs2 (by omega) (by omega) (fun z hz => by have := HBN.out z hz; omega)).mono ?_
          rintro e w' ⟨vp, rfl, hown', hb'⟩
          have hln' := putIt_len its 98 ((x - sx))
          have HB2 := Lib.hid (putIt_bnd (t := 98) (n := (x - sx)) (C := 4398046511104) HBN.out (by omega) (by omega))
          replace hbx := hbx.trans (hb'.mono (by omega))
          replace h4 := (hb'.block w2.heap.size (by omega)).trans h4
          replace h2 := (hb'.block (w2.heap.size + 1) (by omega)).trans h2
          clear hown hb' hs2
          have hown := hown'
          clear hown'
          generalize w' = W at *

          generalize (putIt its 98 (x - sx)) = it2 at *
          go_wp2_with fail

          have hs2 : w2.heap.size + 2 ≤ W.heap.size := by have := (Array.getElem?_eq_some_iff.1 h2).1; omega
          refine (rput_any _ it2 111 1 (w2.heap.size + 2) W (by omega) hown hs2 (by omega) (by omega) (fun z hz => by have := HB2.out z hz; omega)).mono ?_
          rintro e w' ⟨vp, rfl, hown', hb'⟩
          have hln' := putIt_len it2 111 (1)
          have HB3 := Lib.hid (putIt_bnd (t := 111) (n := 1) (C := 4398046511104) HB2.out (by omega) (by omega))
          replace hbx := hbx.trans (hb'.mono (by omega))
          replace h4 := (hb'.block w2.heap.size (by omega)).trans h4
          replace h2 := (hb'.block (w2.heap.size + 1) (by omega)).trans h2
          clear hown hb' hs2
          have hown := hown'
          clear hown'
          generalize w' = W at *

          generalize (putIt it2 111 1) = it3 at *

          have p0 := (hbx.cell (p := ⟨b, o + k * 2, none⟩) hbs).trans q0
          have p1 := (hbx.cell (p := ⟨b, o + k * 2 + 1, none⟩) hbs).trans q1
          obtain ⟨⟨a0, a1⟩, ⟨e0, e1⟩⟩ := two _ _ _ _ _ h2
          obtain ⟨⟨c0, c1, c2, c3⟩, ⟨f0, f1, f2, f3⟩⟩ := four _ _ _ _ _ _ h4

          go_wp2_with fail
          have h2' := heap_setCell_same W (w2.heap.size + 1) 0 _ 89 (.int .i64 (x + 1)) h2
          have h4' := (Below.heap_setCell W ⟨w2.heap.size + 1, 0, none⟩ (.int .i64 (x + 1)) w2.heap.size (by simp)).trans h4
          have hown' := owns_set (p := ⟨w2.heap.size + 1, 0, none⟩) (u := .int .i64 (x + 1)) hown (by simp)
          have hbx' := hbx.setCell (p := ⟨w2.heap.size + 1, 0, none⟩) (by simp) (.int .i64 (x + 1))
          clear p0 p1 a0 a1 e0 e1 c0 c1 c2 c3 f0 f1 f2 f3

          clear hown hbx h2 h4
          exact ⟨⟨k + 1, by omega, by simp, by rw [HSTL.out]; exact hown', hbx', h4', by rw [HSTL.out]; exact h2'⟩, by simp [intOf]; omega⟩
      · have hkl : k = l.length := by omega
        subst hkl
        have hlt' : ¬ ((l.length : Nat) : Int) < l.length := by omega
        rw [List.take_length] at hown h2
        have hln := (HPB.out l.length (Nat.le_refl _)).len
        rw [List.take_length] at hln
        generalize (prFold bx by_ l).x = sx at *
        generalize (prFold bx by_ l).y = sy at *
        generalize (prFold bx by_ l).items = its at *
        obtain ⟨⟨c0, c1, c2, c3⟩, ⟨f0, f1, f2, f3⟩⟩ := four _ _ _ _ _ _ h4
        have hrow := itrow_of_owns hown
        have hbE := hb12.trans (hbx.mono hb12.size)
        have c2' := cell_regrown c2
        have c3' := cell_regrown c3
        have z1 := S_size (dec bw.toNat)
        have z1' := dec_len bw.toNat 18 (by omega)
        have z2 := S_size (dec bh.toNat)
        have z2' := dec_len bh.toNat 18 (by omega)
        have z3 := S_size (text its)
        have z3' := text_len its
        have k1 : ∀ d os, Calls Tryd.prog 34 #[.int .i64 bw] (grow (redrawn wr d) os) fun e w'' => e = .returned (.string (S (dec bw.toNat))) ∧ ∃ p : Regrown, w'' = grow (redrawn wr p.d) p.os := fun d os =>
          Calls.regrown_of (text03_dec bw (grow (redrawn wr d) os) s0 (by omega))
        have k2 : ∀ d os, Calls Tryd.prog 34 #[.int .i64 bh] (grow (redrawn wr d) os) fun e w'' => e = .returned (.string (S (dec bh.toNat))) ∧ ∃ p : Regrown, w'' = grow (redrawn wr p.d) p.os := fun d os =>
          Calls.regrown_of (text03_dec bh (grow (redrawn wr d) os) s2 (by omega))
        have k3 : ∀ d os, Calls Tryd.prog 16 #[u6] (grow (redrawn wr d) os) fun e w'' => e = .returned (.string (S (text its))) ∧ ∃ p : Regrown, w'' = grow (redrawn wr p.d) p.os := fun d os =>
          Calls.regrown_of (rtext_walk u6 its (grow (redrawn wr d) os) (by omega) (hrow.below (below_regrown wr d os)))
        have HA := mkHid (rfl : S (dec bw.toNat) = S (dec bw.toNat))
        have hA : (S (dec bw.toNat)).size ≤ 19 := by omega
        have hB : (S (dec bh.toNat)).size ≤ 19 := by omega
        have hT : (S (text its)).size ≤ 100000 := by omega
        obtain ⟨A, eA⟩ : ∃ A, S (dec bw.toNat) = A := ⟨_, rfl⟩
        obtain ⟨B, eB⟩ : ∃ B, S (dec bh.toNat) = B := ⟨_, rfl⟩
        obtain ⟨T, eT⟩ : ∃ T, S (text its) = T := ⟨_, rfl⟩
        rw [eA] at k1 hA
        rw [eB] at k2 hB
        rw [eT] at k3 hT
        have EA := mkHid eA
        have EB := mkHid eB
        have ET := mkHid eT
        clear eA eB eT HA z1 z1' z2 z2' z3 z3' HRI HPB HPS HC h4 h2 hown hbx c0 c1 c2 c3 f0 f1 f2 f3 hrow x0 x1 y0 y1 hln hl
        go_wp2_with fail
        refine wp_region_quiet_below mixed (by kernel_rfl) ?_
        iterate 3 (go_big_quiet_step (exact k1 _ _))
        iterate 5 (go_big_quiet_step (exact k2 _ _))
        repeat (go_big_quiet_step (exact k3 _ _))
        refine wpQuiet_nil ?_
        intro _ hw'
        obtain ⟨⟨dq, osq⟩, hw''⟩ := hw'
        subst hw''
        have hbF := hbE.trans ((below_regrown wr dq osq).mono hbE.size)
        go_wp2_with fail
        go_ret2
        rw [HPR.out]
        refine ⟨?_, hbF⟩
        have hfin : (⟨#[120, 32, 61, 32]⟩ ++ A ++ ⟨#[44, 32, 121, 32, 61, 32]⟩ ++ B ++ ⟨#[44, 32, 114, 117, 108, 101, 32, 61, 32, 66, 51, 47, 83, 50, 51, 10]⟩ ++ T ++ ⟨#[33, 10]⟩ : ByteArray) = S (headText bw bh ++ 10 :: (text its ++ [33, 10])) := by
          rw [← EA.out, ← EB.out, ← ET.out]
          show S xEq ++ S (dec bw.toNat) ++ S yEq ++ S (dec bh.toNat) ++ S (ruleS ++ [10]) ++ S (text its) ++ S [33, 10] = _
          simp only [S_append, headText]
          simp [List.append_assoc]
        rw [← hfin]
        rfl
end Go.Proofs.YtnpndkmcgpaibaaDoor
