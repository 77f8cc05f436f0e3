/- Put walked. -/
import Derived.Test.YtnpndkmcgpaibaaDoorCG
set_option linter.unusedVariables false
namespace Go.Proofs.YtnpndkmcgpaibaaDoor
open Go.RowKit Go.Sort
attribute [local go_sem high] eqA89

def putHalf (c : Int × Int) (s : List (Int × Int) × Bool) (x : Int × Int) : List (Int × Int) × Bool :=
  if !s.2 && (x == c || lessB c x) then (s.1 ++ [c], true) else s
theorem put_eq {c x : Int × Int} {o : List (Int × Int)} {d : Bool} {p : List (Int × Int) × Bool} (h : (x == c) = true) (h2 : putHalf c (o, d) x = p) : putStep c (o, d) x = p := by
  unfold putStep; rw [if_pos h]; exact h2
theorem put_ne {c x : Int × Int} {o : List (Int × Int)} {d : Bool} {q : List (Int × Int)} {d' : Bool} (h : (x == c) = false) (h2 : putHalf c (o, d) x = (q, d')) : putStep c (o, d) x = (q ++ [x], d') := by
  unfold putStep; rw [if_neg (by rw [h]; simp)]; show ((putHalf c (o, d) x).1 ++ [x], (putHalf c (o, d) x).2) = _; rw [h2]
theorem put_half1 {c x : Int × Int} {o : List (Int × Int)} (h : (x == c) = true) : putHalf c (o, false) x = (o ++ [c], true) := by unfold putHalf; simp [h]
theorem put_half2 {c x : Int × Int} {o : List (Int × Int)} (h : lessB c x = true) : putHalf c (o, false) x = (o ++ [c], true) := by unfold putHalf; simp [h]
theorem put_half3 {c x : Int × Int} {o : List (Int × Int)} (h : (x == c) = false) (h2 : lessB c x = false) : putHalf c (o, false) x = (o, false) := by unfold putHalf; simp [h, h2]
theorem owns_lower {w : World} {base base' e z : Nat} {v : Value} {n : Nat} {l : List Value} (h : w.ownsRow base e z v n l) (hb : base' ≤ base) : w.ownsRow base' e z v n l := by
  refine ⟨h.1, h.2.imp id ?_⟩
  rintro ⟨g, cap, cur, h1, h2, h3⟩
  exact ⟨g, cap, cur, h1, Nat.le_trans hb h2, h3⟩
theorem owns_drew {w : World} {base e z : Nat} {v : Value} {n : Nat} {l : List Value} (h : w.ownsRow base e z v n l) (k : Nat) : (w.drewN k).ownsRow base e z v n l := h

set_option maxHeartbeats 8000000 in
set_option maxRecDepth 100000 in
theorem put_walk (v : Value) (l : List (Int × Int)) (cx cy : Int) (w : World) (hl : l.length ≤ 1000000) (hv : CRow w v l) :
    Calls Tryd.prog 47 #[v, .agg #[.int .i64 cx, .int .i64 cy]] w fun e w' => ∃ v', e = .returned v' ∧ w'.ownsRow w.heap.size 89 2 v' (putL l (cx, cy)).length (ceCells (putL l (cx, cy))) ∧ Below w.heap.size w w' := by
  obtain ⟨a, cap, rfl, hcs⟩ := crow_at hv
  have HC := Lib.hid hcs
  clear hcs hv
  have hW : Below w.heap.size w (w.alloc (Obj.cells #[Value.int IntKind.i64 cx, Value.int IntKind.i64 cy] 89)) := (Below.refl _ w).alloc (Nat.le_refl _) _
  have hnew := heap_alloc_new w (Obj.cells #[Value.int IntKind.i64 cx, Value.int IntKind.i64 cy] 89)
  have hown0 : (w.alloc (Obj.cells #[Value.int IntKind.i64 cx, Value.int IntKind.i64 cy] 89)).ownsRow (w.heap.size + 1) 89 2 (.slice none 0 0) 0 [] := World.ownsRow_nil _ _ _ _
  obtain ⟨i0, hi0, hz0, hz1, hz2⟩ := info_parts infoCell
  go_enter Tryd.func47, Tryd.ntmps47
  go_wp2_with fail
  generalize (w.alloc (Obj.cells #[Value.int IntKind.i64 cx, Value.int IntKind.i64 cy] 89)) = w0 at *
  go_loopw [5, 6, 7] (fun vo dn i wr => ∃ k : Nat, k ≤ l.length ∧ i = .int .i64 k ∧ dn = .bool (putFold (cx, cy) (l.take k)).2 ∧ wr.ownsRow (w.heap.size + 1) 89 2 vo (putFold (cx, cy) (l.take k)).1.length (ceCells (putFold (cx, cy) (l.take k)).1) ∧ Below w.heap.size w wr ∧ wr.heap[w.heap.size]? = some (Obj.cells #[Value.int IntKind.i64 cx, Value.int IntKind.i64 cy] 89 (0, 0))) (fun _ _ i _ => l.length - (intOf i).toNat)
  case atStart => exact ⟨0, Nat.zero_le _, rfl, rfl, hown0, hW, hnew⟩
  case round =>
    clear hnew hW hown0
    obtain ⟨k, hk, rfl, rfl, hown, hbR, hc⟩ := hrel
    obtain ⟨⟨c0, c1⟩, ⟨f0, f1⟩⟩ := two _ _ _ _ _ hc
    by_cases hlt : k < l.length
    · obtain ⟨b, o, rfl, hbs, q0, q1⟩ := HC.out k hlt
      have p0 := (hbR.cell (p := ⟨b, o + k * 2, none⟩) hbs).trans q0
      have p1 := (hbR.cell (p := ⟨b, o + k * 2 + 1, none⟩) hbs).trans q1
      have HPS := Lib.hid (putFold_succ (cx, cy) l k hlt)
      have hol : (putFold (cx, cy) (l.take k)).1.length ≤ 1000000 := by
        have := putFold_len (cx, cy) (l.take k)
        rw [List.length_take] at this
        omega
      obtain ⟨⟨x, y⟩, hxy⟩ : ∃ c, l[k] = c := ⟨_, rfl⟩
      rw [hxy] at q0 q1 p0 p1 HPS
      dsimp only at q0 q1 p0 p1
      generalize putFold (cx, cy) (l.take k) = s at *
      obtain ⟨out, d⟩ := s
      dsimp only at *
      have hlt' : (k : Int) < l.length := by omega
      have p0' := cell_regrown p0
      have p1' := cell_regrown p1
      have c0' := cell_regrown c0
      have c1' := cell_regrown c1
      have cO : ∀ dd os, Calls Tryd.prog 61 #[.agg #[.int .i64 cx, .int .i64 cy], .agg #[.int .i64 x, .int .i64 y]] (grow (redrawn wr dd) os) fun e w'' => e = .returned (.bool (lessB (cx, cy) (x, y))) ∧ ∃ p : Regrown, w'' = grow (redrawn wr p.d) p.os := fun dd os =>
        Calls.regrown_of (rless_any cx cy x y (grow (redrawn wr dd) os))
      generalize hL : lessB (cx, cy) (x, y) = L at *
      generalize hE0 : (x == cx) = e0 at *
      generalize hE1 : (y == cy) = e1 at *
      cases d with
      | true =>
        go_wp2_with fail
        refine wp_region_quiet_below mixed (by kernel_rfl) ?_
        repeat (go_big_quiet_step (first | exact cO _ _))
        refine wpQuiet_nil ?_
        intro _ hw'
        obtain ⟨⟨dq, osq⟩, hw''⟩ := hw'
        subst hw''
        have hbE := (below_regrown wr dq osq)
        have hownE := owns_below hown hbE
        have hbRE := hbR.trans (hbE.mono hbR.size)
        have hcE := (hbE.block w.heap.size (Array.getElem?_eq_some_iff.1 hc).1).trans hc
        clear p0' p1' c0' c1' c0 c1 f0 f1 cO hbE hown hbR hc p0 p1
        generalize grow (redrawn wr dq) osq = W at *

        have p0 := (hbRE.cell (p := ⟨b, o + k * 2, none⟩) hbs).trans q0
        have p1 := (hbRE.cell (p := ⟨b, o + k * 2 + 1, none⟩) hbs).trans q1
        obtain ⟨⟨c0, c1⟩, ⟨f0, f1⟩⟩ := two _ _ _ _ _ hcE
        go_wp2_with fail
        go_quiet (fail)
        have hownV := owns_drew hownE nq
        have hbV := below_drewN hbRE nq
        have hcV : (W.drewN nq).heap[w.heap.size]? = _ := hcE
        cases hee : (!e0 || !e1) with
        | false =>
          have HPN : Hid (putFold (cx, cy) (l.take (k + 1)) = (out, true)) := mkHid (HPS.out.trans (put_eq (by cases e0 <;> cases e1 <;> simp_all) rfl))
          go_wp2_with fail
          exact ⟨⟨k + 1, by omega, by simp, by rw [HPN.out], by rw [HPN.out]; exact hownV, hbV, hcV⟩, by simp [intOf]; omega⟩
        | true =>
          have HPN : Hid (putFold (cx, cy) (l.take (k + 1)) = (out ++ [(x, y)], true)) := mkHid (HPS.out.trans (put_ne (by cases e0 <;> cases e1 <;> simp_all) rfl))
          have p0V : (W.drewN nq).cell? ⟨b, o + k * 2, none⟩ = some (.int .i64 x) := p0
          have p1V : (W.drewN nq).cell? ⟨b, o + k * 2 + 1, none⟩ = some (.int .i64 y) := p1
          clear p0 p1 c0 c1 f0 f1 hownE hbRE hcE q0 q1
          generalize W.drewN nq = V at *

          go_wp2_with (at_builtin; refine wpList_append_own _ rfl _ _ 43 rfl (w.heap.size + 1) 89 i0 (.agg #[.int .i64 0, .int .i64 0]) 2 16 Tryd.underlying43 hi0 hz0 hz1 hz2 rfl (by decide) _ _ _ rfl (hownV.alloc _) ⟨V.heap.size, 0, none⟩ 1 1 (ceCell (x, y)) rfl rfl ?c1 ?c2 ?c3 ?c4 ?c5 ?_)
          case c1 => first | exact fun jj u hj => new_cells V (ceCell (x, y)) 89 jj u hj | exact fun jj u hj => hj
          case c2 => intro u hu; simp [ceCell] at hu; rcases hu with rfl | rfl <;> rfl
          case c3 => unfold maxLen; omega
          case c4 => omega
          case c5 => have := hbV.size; have h2 : w.heap.size < V.heap.size := (Array.getElem?_eq_some_iff.1 hcV).1; simp; omega
          intro v' w4 hown' hgrow _
          have hVs : w.heap.size < V.heap.size := (Array.getElem?_eq_some_iff.1 hcV).1
          have hown4 := hownV.alloc (Obj.cells #[Value.int IntKind.i64 x, Value.int IntKind.i64 y] 89)
          have hbA : Below (w.heap.size + 1) V w4 := below_own ((Below.refl _ V).alloc (by omega) _) hgrow hown4 (Nat.le_refl _) (by simp; omega)
          have hb4 : Below w.heap.size w w4 := hbV.trans (hbA.mono (Nat.le_succ _))
          have hc4 := (hbA.block w.heap.size (by omega)).trans hcV
          have hown5 : w4.ownsRow (w.heap.size + 1) 89 2 v' (out ++ [(x, y)]).length (ceCells (out ++ [(x, y)])) := by
            rw [ceCells_append, List.length_append]; simpa [ceCells] using hown'
          clear hown' hgrow hown4 hownV hbV hcV hbA

          go_wp2_with fail
          exact ⟨⟨k + 1, by omega, by simp, by rw [HPN.out], by rw [HPN.out]; exact hown5, hb4, hc4⟩, by simp [intOf]; omega⟩
      | false =>
        by_cases hee : (e0 && e1) = true
        · have he0 : e0 = true := by cases e0 <;> simp_all
          have he1 : e1 = true := by cases e1 <;> simp_all
          subst he0 he1
          have HPN : Hid (putFold (cx, cy) (l.take (k + 1)) = (out ++ [(cx, cy)], true)) := mkHid (HPS.out.trans (put_eq (by simp_all) (put_half1 (by simp_all))))
          go_wp2_with fail
          refine wp_region_quiet_below mixed (by kernel_rfl) ?_
          repeat (go_big_quiet_step (first | exact cO _ _))
          refine wpQuiet_nil ?_
          intro _ hw'
          obtain ⟨⟨dq, osq⟩, hw''⟩ := hw'
          subst hw''
          have hbE := (below_regrown wr dq osq)
          have hownE := owns_below hown hbE
          have hbRE := hbR.trans (hbE.mono hbR.size)
          have hcE := (hbE.block w.heap.size (Array.getElem?_eq_some_iff.1 hc).1).trans hc
          clear p0' p1' c0' c1' c0 c1 f0 f1 cO hbE hown hbR hc p0 p1
          generalize grow (redrawn wr dq) osq = W at *

          have hownV := hownE
          have hbV := hbRE
          have hcV := hcE
          obtain ⟨⟨c0, c1⟩, ⟨f0, f1⟩⟩ := two _ _ _ _ _ hcE
          clear hownE hbRE hcE
          generalize W = V at *

          go_wp2_with (at_builtin; refine wpList_append_own _ rfl _ _ 43 rfl (w.heap.size + 1) 89 i0 (.agg #[.int .i64 0, .int .i64 0]) 2 16 Tryd.underlying43 hi0 hz0 hz1 hz2 rfl (by decide) _ _ _ rfl (hownV.alloc _) ⟨V.heap.size, 0, none⟩ 1 1 (ceCell (cx, cy)) rfl rfl ?c1 ?c2 ?c3 ?c4 ?c5 ?_)
          case c1 => first | exact fun jj u hj => new_cells V (ceCell (cx, cy)) 89 jj u hj | exact fun jj u hj => hj
          case c2 => intro u hu; simp [ceCell] at hu; rcases hu with rfl | rfl <;> rfl
          case c3 => unfold maxLen; omega
          case c4 => omega
          case c5 => have := hbV.size; have h2 : w.heap.size < V.heap.size := (Array.getElem?_eq_some_iff.1 hcV).1; simp; omega
          intro v' w4 hown' hgrow _
          have hVs : w.heap.size < V.heap.size := (Array.getElem?_eq_some_iff.1 hcV).1
          have hown4 := hownV.alloc (Obj.cells #[Value.int IntKind.i64 cx, Value.int IntKind.i64 cy] 89)
          have hbA : Below (w.heap.size + 1) V w4 := below_own ((Below.refl _ V).alloc (by omega) _) hgrow hown4 (Nat.le_refl _) (by simp; omega)
          have hb4 : Below w.heap.size w w4 := hbV.trans (hbA.mono (Nat.le_succ _))
          have hc4 := (hbA.block w.heap.size (by omega)).trans hcV
          have hown5 : w4.ownsRow (w.heap.size + 1) 89 2 v' (out ++ [(cx, cy)]).length (ceCells (out ++ [(cx, cy)])) := by
            rw [ceCells_append, List.length_append]; simpa [ceCells] using hown'
          clear hown' hgrow hown4 hownV hbV hcV hbA

          clear c0 c1 f0 f1
          have hownE := hown5
          have hbRE := hb4
          have hcE := hc4
          clear hown5 hb4 hc4
          generalize w4 = W at *
          have hol2 : (out ++ [(cx, cy)]).length ≤ 1000001 := by simp; omega

          have p0 := (hbRE.cell (p := ⟨b, o + k * 2, none⟩) hbs).trans q0
          have p1 := (hbRE.cell (p := ⟨b, o + k * 2 + 1, none⟩) hbs).trans q1
          obtain ⟨⟨c0, c1⟩, ⟨f0, f1⟩⟩ := two _ _ _ _ _ hcE
          go_wp2_with fail
          go_quiet (fail)
          have hownV := owns_drew hownE nq
          have hbV := below_drewN hbRE nq
          have hcV : (W.drewN nq).heap[w.heap.size]? = _ := hcE

          go_wp2_with fail
          exact ⟨⟨k + 1, by omega, by simp, by rw [HPN.out], by rw [HPN.out]; exact hownV, hbV, hcV⟩, by simp [intOf]; omega⟩
        · have hef : (e0 && e1) = false := by simpa using hee
          have heg : (!e0 || !e1) = true := by cases e0 <;> cases e1 <;> simp_all
          have hne : ((x, y) == (cx, cy)) = false := by cases e0 <;> cases e1 <;> simp_all
          clear hee
          cases L with
          | true =>
            have HPN : Hid (putFold (cx, cy) (l.take (k + 1)) = (out ++ [(cx, cy)] ++ [(x, y)], true)) := mkHid (HPS.out.trans (put_ne hne (put_half2 hL)))
            clear hne

            go_wp2_with fail
            refine wp_region_quiet_below mixed (by kernel_rfl) ?_
            repeat (go_big_quiet_step (first | exact cO _ _))
            refine wpQuiet_nil ?_
            intro _ hw'
            obtain ⟨⟨dq, osq⟩, hw''⟩ := hw'
            subst hw''
            have hbE := (below_regrown wr dq osq)
            have hownE := owns_below hown hbE
            have hbRE := hbR.trans (hbE.mono hbR.size)
            have hcE := (hbE.block w.heap.size (Array.getElem?_eq_some_iff.1 hc).1).trans hc
            clear p0' p1' c0' c1' c0 c1 f0 f1 cO hbE hown hbR hc p0 p1
            generalize grow (redrawn wr dq) osq = W at *

            have hownV := hownE
            have hbV := hbRE
            have hcV := hcE
            obtain ⟨⟨c0, c1⟩, ⟨f0, f1⟩⟩ := two _ _ _ _ _ hcE
            clear hownE hbRE hcE
            generalize W = V at *

            go_wp2_with (at_builtin; refine wpList_append_own _ rfl _ _ 43 rfl (w.heap.size + 1) 89 i0 (.agg #[.int .i64 0, .int .i64 0]) 2 16 Tryd.underlying43 hi0 hz0 hz1 hz2 rfl (by decide) _ _ _ rfl (hownV.alloc _) ⟨V.heap.size, 0, none⟩ 1 1 (ceCell (cx, cy)) rfl rfl ?c1 ?c2 ?c3 ?c4 ?c5 ?_)
            case c1 => first | exact fun jj u hj => new_cells V (ceCell (cx, cy)) 89 jj u hj | exact fun jj u hj => hj
            case c2 => intro u hu; simp [ceCell] at hu; rcases hu with rfl | rfl <;> rfl
            case c3 => unfold maxLen; omega
            case c4 => omega
            case c5 => have := hbV.size; have h2 : w.heap.size < V.heap.size := (Array.getElem?_eq_some_iff.1 hcV).1; simp; omega
            intro v' w4 hown' hgrow _
            have hVs : w.heap.size < V.heap.size := (Array.getElem?_eq_some_iff.1 hcV).1
            have hown4 := hownV.alloc (Obj.cells #[Value.int IntKind.i64 cx, Value.int IntKind.i64 cy] 89)
            have hbA : Below (w.heap.size + 1) V w4 := below_own ((Below.refl _ V).alloc (by omega) _) hgrow hown4 (Nat.le_refl _) (by simp; omega)
            have hb4 : Below w.heap.size w w4 := hbV.trans (hbA.mono (Nat.le_succ _))
            have hc4 := (hbA.block w.heap.size (by omega)).trans hcV
            have hown5 : w4.ownsRow (w.heap.size + 1) 89 2 v' (out ++ [(cx, cy)]).length (ceCells (out ++ [(cx, cy)])) := by
              rw [ceCells_append, List.length_append]; simpa [ceCells] using hown'
            clear hown' hgrow hown4 hownV hbV hcV hbA

            clear c0 c1 f0 f1
            have hownE := hown5
            have hbRE := hb4
            have hcE := hc4
            clear hown5 hb4 hc4
            generalize w4 = W at *
            have hol2 : (out ++ [(cx, cy)]).length ≤ 1000001 := by simp; omega

            have p0 := (hbRE.cell (p := ⟨b, o + k * 2, none⟩) hbs).trans q0
            have p1 := (hbRE.cell (p := ⟨b, o + k * 2 + 1, none⟩) hbs).trans q1
            obtain ⟨⟨c0, c1⟩, ⟨f0, f1⟩⟩ := two _ _ _ _ _ hcE
            go_wp2_with fail
            go_quiet (fail)
            have hownV := owns_drew hownE nq
            have hbV := below_drewN hbRE nq
            have hcV : (W.drewN nq).heap[w.heap.size]? = _ := hcE

            have p0V : (W.drewN nq).cell? ⟨b, o + k * 2, none⟩ = some (.int .i64 x) := p0
            have p1V : (W.drewN nq).cell? ⟨b, o + k * 2 + 1, none⟩ = some (.int .i64 y) := p1
            clear p0 p1 c0 c1 f0 f1 hownE hbRE hcE q0 q1
            generalize W.drewN nq = V at *

            go_wp2_with (at_builtin; refine wpList_append_own _ rfl _ _ 43 rfl (w.heap.size + 1) 89 i0 (.agg #[.int .i64 0, .int .i64 0]) 2 16 Tryd.underlying43 hi0 hz0 hz1 hz2 rfl (by decide) _ _ _ rfl (hownV.alloc _) ⟨V.heap.size, 0, none⟩ 1 1 (ceCell (x, y)) rfl rfl ?c1 ?c2 ?c3 ?c4 ?c5 ?_)
            case c1 => first | exact fun jj u hj => new_cells V (ceCell (x, y)) 89 jj u hj | exact fun jj u hj => hj
            case c2 => intro u hu; simp [ceCell] at hu; rcases hu with rfl | rfl <;> rfl
            case c3 => unfold maxLen; omega
            case c4 => omega
            case c5 => have := hbV.size; have h2 : w.heap.size < V.heap.size := (Array.getElem?_eq_some_iff.1 hcV).1; simp; omega
            intro v' w4 hown' hgrow _
            have hVs : w.heap.size < V.heap.size := (Array.getElem?_eq_some_iff.1 hcV).1
            have hown4 := hownV.alloc (Obj.cells #[Value.int IntKind.i64 x, Value.int IntKind.i64 y] 89)
            have hbA : Below (w.heap.size + 1) V w4 := below_own ((Below.refl _ V).alloc (by omega) _) hgrow hown4 (Nat.le_refl _) (by simp; omega)
            have hb4 : Below w.heap.size w w4 := hbV.trans (hbA.mono (Nat.le_succ _))
            have hc4 := (hbA.block w.heap.size (by omega)).trans hcV
            have hown5 : w4.ownsRow (w.heap.size + 1) 89 2 v' (out ++ [(cx, cy)] ++ [(x, y)]).length (ceCells (out ++ [(cx, cy)] ++ [(x, y)])) := by
              rw [ceCells_append, List.length_append]; simpa [ceCells] using hown'
            clear hown' hgrow hown4 hownV hbV hcV hbA

            go_wp2_with fail
            exact ⟨⟨k + 1, by omega, by simp, by rw [HPN.out], by rw [HPN.out]; exact hown5, hb4, hc4⟩, by simp [intOf]; omega⟩
          | false =>
            have HPN : Hid (putFold (cx, cy) (l.take (k + 1)) = (out ++ [(x, y)], false)) := mkHid (HPS.out.trans (put_ne hne (put_half3 hne hL)))
            clear hne

            go_wp2_with fail
            refine wp_region_quiet_below mixed (by kernel_rfl) ?_
            repeat (go_big_quiet_step (first | exact cO _ _))
            refine wpQuiet_nil ?_
            intro _ hw'
            obtain ⟨⟨dq, osq⟩, hw''⟩ := hw'
            subst hw''
            have hbE := (below_regrown wr dq osq)
            have hownE := owns_below hown hbE
            have hbRE := hbR.trans (hbE.mono hbR.size)
            have hcE := (hbE.block w.heap.size (Array.getElem?_eq_some_iff.1 hc).1).trans hc
            clear p0' p1' c0' c1' c0 c1 f0 f1 cO hbE hown hbR hc p0 p1
            generalize grow (redrawn wr dq) osq = W at *

            have p0 := (hbRE.cell (p := ⟨b, o + k * 2, none⟩) hbs).trans q0
            have p1 := (hbRE.cell (p := ⟨b, o + k * 2 + 1, none⟩) hbs).trans q1
            obtain ⟨⟨c0, c1⟩, ⟨f0, f1⟩⟩ := two _ _ _ _ _ hcE
            go_wp2_with fail
            go_quiet (fail)
            have hownV := owns_drew hownE nq
            have hbV := below_drewN hbRE nq
            have hcV : (W.drewN nq).heap[w.heap.size]? = _ := hcE

            have p0V : (W.drewN nq).cell? ⟨b, o + k * 2, none⟩ = some (.int .i64 x) := p0
            have p1V : (W.drewN nq).cell? ⟨b, o + k * 2 + 1, none⟩ = some (.int .i64 y) := p1
            clear p0 p1 c0 c1 f0 f1 hownE hbRE hcE q0 q1
            generalize W.drewN nq = V at *

            go_wp2_with (at_builtin; refine wpList_append_own _ rfl _ _ 43 rfl (w.heap.size + 1) 89 i0 (.agg #[.int .i64 0, .int .i64 0]) 2 16 Tryd.underlying43 hi0 hz0 hz1 hz2 rfl (by decide) _ _ _ rfl (hownV.alloc _) ⟨V.heap.size, 0, none⟩ 1 1 (ceCell (x, y)) rfl rfl ?c1 ?c2 ?c3 ?c4 ?c5 ?_)
            case c1 => first | exact fun jj u hj => new_cells V (ceCell (x, y)) 89 jj u hj | exact fun jj u hj => hj
            case c2 => intro u hu; simp [ceCell] at hu; rcases hu with rfl | rfl <;> rfl
            case c3 => unfold maxLen; omega
            case c4 => omega
            case c5 => have := hbV.size; have h2 : w.heap.size < V.heap.size := (Array.getElem?_eq_some_iff.1 hcV).1; simp; omega
            intro v' w4 hown' hgrow _
            have hVs : w.heap.size < V.heap.size := (Array.getElem?_eq_some_iff.1 hcV).1
            have hown4 := hownV.alloc (Obj.cells #[Value.int IntKind.i64 x, Value.int IntKind.i64 y] 89)
            have hbA : Below (w.heap.size + 1) V w4 := below_own ((Below.refl _ V).alloc (by omega) _) hgrow hown4 (Nat.le_refl _) (by simp; omega)
            have hb4 : Below w.heap.size w w4 := hbV.trans (hbA.mono (Nat.le_succ _))
            have hc4 := (hbA.block w.heap.size (by omega)).trans hcV
            have hown5 : w4.ownsRow (w.heap.size + 1) 89 2 v' (out ++ [(x, y)]).length (ceCells (out ++ [(x, y)])) := by
              rw [ceCells_append, List.length_append]; simpa [ceCells] using hown'
            clear hown' hgrow hown4 hownV hbV hcV hbA

            go_wp2_with fail
            exact ⟨⟨k + 1, by omega, by simp, by rw [HPN.out], by rw [HPN.out]; exact hown5, hb4, hc4⟩, by simp [intOf]; omega⟩
    · have hkl : k = l.length := by omega
      subst hkl
      have hlt' : ¬ ((l.length : Nat) : Int) < l.length := by omega
      have HPU : Hid (putL l (cx, cy) = if (putFold (cx, cy) l).2 then (putFold (cx, cy) l).1 else (putFold (cx, cy) l).1 ++ [(cx, cy)]) := mkHid rfl
      have HLN := Lib.hid (putFold_len (cx, cy) l)
      rw [List.take_length] at *
      generalize putFold (cx, cy) l = s at *
      obtain ⟨out, d⟩ := s
      dsimp only at *
      cases d with
      | true =>
        go_wp2_with fail
        go_ret
        rw [HPU.out]
        simp only [if_true]
        exact ⟨_, rfl, owns_lower hown (Nat.le_succ _), hbR⟩
      | false =>
        have hol : out.length ≤ 1000000 := by have := HLN.out; simp at this; omega
        have hownV := hown
        have hbV := hbR
        have hcV := hc
        clear hown hbR hc
        generalize wr = V at *
        go_wp2_with (at_builtin; refine wpList_append_own _ rfl _ _ 43 rfl (w.heap.size + 1) 89 i0 (.agg #[.int .i64 0, .int .i64 0]) 2 16 Tryd.underlying43 hi0 hz0 hz1 hz2 rfl (by decide) _ _ _ rfl (hownV.alloc _) ⟨V.heap.size, 0, none⟩ 1 1 (ceCell (cx, cy)) rfl rfl ?c1 ?c2 ?c3 ?c4 ?c5 ?_)
        case c1 => first | exact fun jj u hj => new_cells V (ceCell (cx, cy)) 89 jj u hj | exact fun jj u hj => hj
        case c2 => intro u hu; simp [ceCell] at hu; rcases hu with rfl | rfl <;> rfl
        case c3 => unfold maxLen; omega
        case c4 => omega
        case c5 => have := hbV.size; have h2 : w.heap.size < V.heap.size := (Array.getElem?_eq_some_iff.1 hcV).1; simp; omega
        intro v' w4 hown' hgrow _
        have hVs : w.heap.size < V.heap.size := (Array.getElem?_eq_some_iff.1 hcV).1
        have hown4 := hownV.alloc (Obj.cells #[Value.int IntKind.i64 cx, Value.int IntKind.i64 cy] 89)
        have hbA : Below (w.heap.size + 1) V w4 := below_own ((Below.refl _ V).alloc (by omega) _) hgrow hown4 (Nat.le_refl _) (by simp; omega)
        have hb4 : Below w.heap.size w w4 := hbV.trans (hbA.mono (Nat.le_succ _))
        have hc4 := (hbA.block w.heap.size (by omega)).trans hcV
        have hown5 : w4.ownsRow (w.heap.size + 1) 89 2 v' (out ++ [(cx, cy)]).length (ceCells (out ++ [(cx, cy)])) := by
          rw [ceCells_append, List.length_append]; simpa [ceCells] using hown'
        clear hown' hgrow hown4 hownV hbV hcV hbA

        go_wp2_with fail
        go_ret
        rw [HPU.out]
        simp only [if_false, Bool.false_eq_true]
        exact ⟨_, rfl, owns_lower hown5 (Nat.le_succ _), hb4⟩
end Go.Proofs.YtnpndkmcgpaibaaDoor
