/- Shift walked. -/
import Derived.Test.YtnpndkmcgpaibaaDoorCI
import Derived.Deep.RegionHeldLaw
import Derived.Deep.AppendLies
set_option linter.unusedVariables false
namespace Go.Proofs.YtnpndkmcgpaibaaDoor
open Go.RowKit Go.Sort
attribute [local go_sem high] eqA89

def shiftOk (dx dy : Int) (c : Int × Int) : Bool := decide (-2199023255552 ≤ dx ∧ dx ≤ 2199023255552 ∧ -2199023255552 ≤ dy ∧ dy ≤ 2199023255552) && inB (c.1 + dx, c.2 + dy)
def shiftM (dx dy : Int) (l : List (Int × Int)) : List (Int × Int) := l.map fun c => (c.1 + dx, c.2 + dy)
def shiftP (l : List (Int × Int)) (dx dy : Int) : List (Int × Int) × Int :=
  if rightB l = true then if l.all (shiftOk dx dy) = true then (shiftM dx dy l, 0) else ([], 2) else ([], 1)
theorem shiftM_succ (dx dy : Int) (l : List (Int × Int)) (k : Nat) (h : k < l.length) : shiftM dx dy (l.take (k + 1)) = shiftM dx dy (l.take k) ++ [((l[k]).1 + dx, (l[k]).2 + dy)] := by
  unfold shiftM; rw [List.take_succ_eq_append_getElem h, List.map_append]; rfl
theorem shiftM_len (dx dy : Int) (l : List (Int × Int)) : (shiftM dx dy l).length = l.length := by simp [shiftM]
theorem all_take_succ {α : Type} (p : α → Bool) (l : List α) (k : Nat) (h : k < l.length) : (l.take (k + 1)).all p = ((l.take k).all p && p l[k]) := by
  rw [List.take_succ_eq_append_getElem h, List.all_append]; simp
theorem shift_no {l : List (Int × Int)} {dx dy : Int} (hr : rightB l = true) (k : Nat) (h : k < l.length) (ho : shiftOk dx dy l[k] = false) : shiftP l dx dy = ([], 2) := by
  unfold shiftP
  rw [if_pos hr, if_neg]
  intro h2
  have := List.all_eq_true.1 h2 l[k] (List.getElem_mem h)
  rw [ho] at this; cases this

set_option maxHeartbeats 4000000 in
set_option maxRecDepth 100000 in
theorem shift_walk (v : Value) (l : List (Int × Int)) (dx dy : Int) (w : World) (hl : l.length ≤ 4611686018427387904) (hv : CRow w v l)
    (hx0 : -9223372036854775808 ≤ dx) (hx1 : dx ≤ 9223372036854775807) (hy0 : -9223372036854775808 ≤ dy) (hy1 : dy ≤ 9223372036854775807) :
    Calls Tryd.prog 31 #[v, .int .i64 dx, .int .i64 dy] w fun e w' => ∃ v', e = .returned (.tuple #[v', .int .i64 (shiftP l dx dy).2]) ∧ w'.ownsRow w.heap.size 89 2 v' (shiftP l dx dy).1.length (ceCells (shiftP l dx dy).1) ∧ Below w.heap.size w w' := by
  go_enter Tryd.func31, Tryd.ntmps31
  go_wp2_with fail
  refine (rright_walk v l w hl hv).mono ?_
  rintro e w1 ⟨rfl, hb1⟩
  have hv1 := hv.below hb1
  clear hv
  obtain ⟨a, cap, rfl, hcs⟩ := crow_at hv1
  have HC := Lib.hid hcs
  clear hcs hv1
  cases hr : rightB l with
  | false =>
    have HE : Hid (shiftP l dx dy = ([], 1)) := mkHid (by unfold shiftP; rw [hr]; rfl)
    clear hr
    go_wp2_with fail
    go_ret2
    rw [HE.out]
    exact ⟨_, rfl, World.ownsRow_nil _ _ _ _, hb1⟩
  | true =>
    have HRI := Lib.hid (right_in hr)
    have hl2 : l.length ≤ 2000 := by
      have := hr; unfold rightB at this; rw [Bool.and_eq_true] at this; simpa using this.2
    have HR := mkHid hr
    clear hr
    obtain ⟨i0, hi0, hz0, hz1, hz2⟩ := info_parts infoCell
    go_wp2_with fail
    go_loopw [9, 10] (fun vo i wr => ∃ k : Nat, k ≤ l.length ∧ i = .int .i64 k ∧ wr.ownsRow w1.heap.size 89 2 vo (shiftM dx dy (l.take k)).length (ceCells (shiftM dx dy (l.take k))) ∧ Below w.heap.size w wr ∧ Below w1.heap.size w1 wr ∧ (l.take k).all (shiftOk dx dy) = true) (fun _ i _ => l.length - (intOf i).toNat)
    case atStart => exact ⟨0, Nat.zero_le _, rfl, World.ownsRow_nil _ _ _ _, hb1, Below.refl _ w1, rfl⟩
    case round =>
      obtain ⟨k, hk, rfl, hown, hbw, hbx, hall⟩ := hrel
      have HALL := mkHid hall
      clear hall
      have hs := hbw.size
      by_cases hlt : k < l.length
      · obtain ⟨b, o, rfl, hbs', q0, q1⟩ := HC.out k hlt
        have p0 := (hbx.cell (p := ⟨b, o + k * 2, none⟩) hbs').trans q0
        have p1 := (hbx.cell (p := ⟨b, o + k * 2 + 1, none⟩) hbs').trans q1
        have HSS := Lib.hid (shiftM_succ dx dy l k hlt)
        have HAS := Lib.hid (all_take_succ (shiftOk dx dy) l k hlt)
        have HNO := Lib.hid (shift_no (dx := dx) (dy := dy) HR.out k hlt)
        have hrg := HRI.out k hlt
        have hln : (shiftM dx dy (l.take k)).length = k := by rw [shiftM_len, List.length_take]; omega
        obtain ⟨⟨x, y⟩, hxy⟩ : ∃ c, l[k] = c := ⟨_, rfl⟩
        rw [hxy] at p0 p1 hrg HSS HAS HNO q0 q1
        dsimp only at p0 p1 hrg q0 q1
        obtain ⟨r1, r2, r3, r4⟩ := hrg
        clear hxy
        have p0' := cell_regrown p0
        have p1' := cell_regrown p1
        have hlt' : (k : Int) < l.length := by omega
        have hHok : Hid (shiftOk dx dy (x, y) = (decide (-2199023255552 ≤ dx ∧ dx ≤ 2199023255552 ∧ -2199023255552 ≤ dy ∧ dy ≤ 2199023255552) && inB (x + dx, y + dy))) := mkHid rfl
        generalize hL : inB (x + dx, y + dy) = L at *
        have cO : ∀ d os, Calls Tryd.prog 60 #[.agg #[.int .i64 (x + dx), .int .i64 (y + dy)]] (grow (redrawn wr d) os) fun e w'' => e = .returned (.bool L) ∧ ∃ p : Regrown, w'' = grow (redrawn wr p.d) p.os := fun d os => by
          have := Calls.regrown_of (rin_any (x + dx) (y + dy) (grow (redrawn wr d) os)); rw [hL] at this; exact this
        by_cases g1 : dx < -2199023255552
        · have d1 : decide (dx < -2199023255552) = true := by simpa using g1
          have HOF : Hid (shiftOk dx dy (x, y) = false) := mkHid (by rw [hHok.out]; simp; omega)
          have HSP := mkHid (HNO.out HOF.out)
          go_wp2_with fail
          refine wp_region_quiet_below mixed (by kernel_rfl) ?_
          repeat (go_big_quiet_step (first | exact cO _ _))

          refine wpQuiet_nil ?_
          intro _ hw'
          obtain ⟨⟨dq, osq⟩, hw''⟩ := hw'
          subst hw''

          have hbE := (below_regrown wr dq osq)
          have hbRE := hbw.trans (hbE.mono hbw.size)
          clear p0' p1' cO hbE hown hbw hbx p0 p1
          generalize grow (redrawn wr dq) osq = W at *
          go_wp2_with fail
          go_ret2
          rw [HSP.out]
          exact ⟨_, rfl, World.ownsRow_nil _ _ _ _, hbRE⟩
        · have d1 : decide (dx < -2199023255552) = false := by simpa using g1
          by_cases g2 : 2199023255552 < dx
          · have d2 : decide (2199023255552 < dx) = true := by simpa using g2
            have HOF : Hid (shiftOk dx dy (x, y) = false) := mkHid (by rw [hHok.out]; simp; omega)
            have HSP := mkHid (HNO.out HOF.out)
            go_wp2_with fail
            refine wp_region_quiet_below mixed (by kernel_rfl) ?_
            repeat (go_big_quiet_step (first | exact cO _ _))

            refine wpQuiet_nil ?_
            intro _ hw'
            obtain ⟨⟨dq, osq⟩, hw''⟩ := hw'
            subst hw''

            have hbE := (below_regrown wr dq osq)
            have hbRE := hbw.trans (hbE.mono hbw.size)
            clear p0' p1' cO hbE hown hbw hbx p0 p1
            generalize grow (redrawn wr dq) osq = W at *
            go_wp2_with fail
            go_ret2
            rw [HSP.out]
            exact ⟨_, rfl, World.ownsRow_nil _ _ _ _, hbRE⟩
          · have d2 : decide (2199023255552 < dx) = false := by simpa using g2
            by_cases g3 : dy < -2199023255552
            · have d3 : decide (dy < -2199023255552) = true := by simpa using g3
              have HOF : Hid (shiftOk dx dy (x, y) = false) := mkHid (by rw [hHok.out]; simp; omega)
              have HSP := mkHid (HNO.out HOF.out)
              go_wp2_with fail
              refine wp_region_quiet_below mixed (by kernel_rfl) ?_
              repeat (go_big_quiet_step (first | exact cO _ _))

              refine wpQuiet_nil ?_
              intro _ hw'
              obtain ⟨⟨dq, osq⟩, hw''⟩ := hw'
              subst hw''

              have hbE := (below_regrown wr dq osq)
              have hbRE := hbw.trans (hbE.mono hbw.size)
              clear p0' p1' cO hbE hown hbw hbx p0 p1
              generalize grow (redrawn wr dq) osq = W at *
              go_wp2_with fail
              go_ret2
              rw [HSP.out]
              exact ⟨_, rfl, World.ownsRow_nil _ _ _ _, hbRE⟩
            · have d3 : decide (dy < -2199023255552) = false := by simpa using g3
              by_cases g4 : 2199023255552 < dy
              · have d4 : decide (2199023255552 < dy) = true := by simpa using g4
                have HOF : Hid (shiftOk dx dy (x, y) = false) := mkHid (by rw [hHok.out]; simp; omega)
                have HSP := mkHid (HNO.out HOF.out)
                go_wp2_with fail
                refine wp_region_quiet_below mixed (by kernel_rfl) ?_
                repeat (go_big_quiet_step (first | exact cO _ _))

                refine wpQuiet_nil ?_
                intro _ hw'
                obtain ⟨⟨dq, osq⟩, hw''⟩ := hw'
                subst hw''

                have hbE := (below_regrown wr dq osq)
                have hbRE := hbw.trans (hbE.mono hbw.size)
                clear p0' p1' cO hbE hown hbw hbx p0 p1
                generalize grow (redrawn wr dq) osq = W at *
                go_wp2_with fail
                go_ret2
                rw [HSP.out]
                exact ⟨_, rfl, World.ownsRow_nil _ _ _ _, hbRE⟩
              · have d4 : decide (2199023255552 < dy) = false := by simpa using g4
                cases L with
                | false =>
                  have HOF : Hid (shiftOk dx dy (x, y) = false) := mkHid (by rw [hHok.out]; simp)
                  have HSP := mkHid (HNO.out HOF.out)
                  go_wp2_with fail
                  refine wp_region_quiet_below mixed (by kernel_rfl) ?_
                  repeat (go_big_quiet_step (first | exact cO _ _))

                  refine wpQuiet_nil ?_
                  intro _ hw'
                  obtain ⟨⟨dq, osq⟩, hw''⟩ := hw'
                  subst hw''

                  have hbE := (below_regrown wr dq osq)
                  have hbRE := hbw.trans (hbE.mono hbw.size)
                  clear p0' p1' cO hbE hown hbw hbx p0 p1
                  generalize grow (redrawn wr dq) osq = W at *
                  go_wp2_with fail
                  go_ret2
                  rw [HSP.out]
                  exact ⟨_, rfl, World.ownsRow_nil _ _ _ _, hbRE⟩
                | true =>
                  have HOT : Hid (shiftOk dx dy (x, y) = true) := mkHid (by rw [hHok.out]; simp; omega)
                  go_wp2_with fail
                  refine wp_region_quiet_below mixed (by kernel_rfl) ?_
                  repeat (go_big_quiet_step (first | exact cO _ _))
                  refine wpQuiet_nil ?_
                  intro _ hw'
                  obtain ⟨⟨dq, osq⟩, hw''⟩ := hw'
                  subst hw''

                  have hbE := (below_regrown wr dq osq)
                  have hbRE := hbw.trans (hbE.mono hbw.size)
                  have hbXE := hbx.trans (hbE.mono hbx.size)
                  have hownE := owns_below hown hbE
                  clear p0' p1' cO hbE hown hbw hbx p0 p1
                  generalize grow (redrawn wr dq) osq = W at *
                  have p0 := (hbXE.cell (p := ⟨b, o + k * 2, none⟩) hbs').trans q0
                  have p1 := (hbXE.cell (p := ⟨b, o + k * 2 + 1, none⟩) hbs').trans q1
                  go_wp2_with fail
                  have hs2 := hbXE.size
                  have hwx : IntKind.i64.wrap (x + dx) = x + dx := by rw [IntKind.wrap_i64]; omega
                  have hwy : IntKind.i64.wrap (y + dy) = y + dy := by rw [IntKind.wrap_i64]; omega
                  have hown4 := hownE.drew.alloc (Obj.cells #[Value.int IntKind.i64 (IntKind.i64.wrap (x + dx)), Value.int IntKind.i64 (IntKind.i64.wrap (y + dy))] 89)
                  have hbXA := hbXE.drew.alloc hbXE.drew.size (Obj.cells #[Value.int IntKind.i64 (IntKind.i64.wrap (x + dx)), Value.int IntKind.i64 (IntKind.i64.wrap (y + dy))] 89)
                  have hnw := fun jj u hj => new_cells W.drew (ceCell (IntKind.i64.wrap (x + dx), IntKind.i64.wrap (y + dy))) 89 jj u hj
                  have hbyt : (k + 1) * 16 ≤ 140737488355328 := by omega
                  have hmx : k + 1 ≤ maxLen := by unfold maxLen; omega
                  have hone : ∀ u ∈ ceCell (IntKind.i64.wrap (x + dx), IntKind.i64.wrap (y + dy)), u.oneCell' = true := by intro u hu; simp [ceCell] at hu; rcases hu with rfl | rfl <;> rfl
                  rw [hln] at hownE hown4
                  have HWX := mkHid hwx
                  have HWY := mkHid hwy
                  clear hwx hwy
                  go_region_held_law (fun w' => w'.cell? ⟨b, o + k * 2, none⟩ = some (.int .i64 x) ∧ w'.cell? ⟨b, o + k * 2 + 1, none⟩ = some (.int .i64 y)) (first | exact ⟨(hbX4.cell (p := ⟨b, o + k * 2, none⟩) hbs').trans q0, (hbX4.cell (p := ⟨b, o + k * 2 + 1, none⟩) hbs').trans q1⟩ | go_keep)
                    ((refine step_append_lies _ rfl (.tmp 59) (.tmp 75) 43 rfl w1.heap.size 89 i0 (.agg #[.int .i64 0, .int .i64 0]) 2 16 Tryd.underlying43 hi0 hz0 hz1 hz2 rfl Nat.two_pos u9 k (ceCells (shiftM dx dy (l.take k))) rfl hown4 ⟨W.heap.size, 0, none⟩ 1 1 (ceCell (IntKind.i64.wrap (x + dx), IntKind.i64.wrap (y + dy))) rfl rfl hnw hone Nat.one_pos hmx hbyt hbXA.size _ rfl ?_; intro g cap w4 hown' hgrow hat hlt4; have hbX4 := below_own hbXA hgrow hown4 (Nat.le_refl _) hbXA.size))
                  have hb4 : Below w.heap.size w w4 := hb1.trans (hbX4.mono hb1.size)
                  have hown5 : w4.ownsRow w1.heap.size 89 2 (Value.slice (some ⟨g, 0, none⟩) (k + 1) cap) (shiftM dx dy (l.take (k + 1))).length (ceCells (shiftM dx dy (l.take (k + 1)))) := by
                    rw [HWX.out, HWY.out] at hown'
                    rw [HSS.out, ceCells_append, List.length_append, hln]; simpa [ceCells] using hown'
                  have HAK : Hid ((l.take (k + 1)).all (shiftOk dx dy) = true) := mkHid (by rw [HAS.out, HALL.out, HOT.out]; rfl)
                  clear hown' hgrow hown4 hat hownE hbRE hbXE hbXA hnw hone p0 p1 q0 q1
                  go_wp2_with fail
                  exact ⟨⟨k + 1, by omega, by simp, hown5, hb4, hbX4, HAK.out⟩, by simp [intOf]; omega⟩
      · have hkl : k = l.length := by omega
        subst hkl
        have hlt' : ¬ ((l.length : Nat) : Int) < l.length := by omega
        have HSP : Hid (shiftP l dx dy = (shiftM dx dy l, 0)) := mkHid (by
          unfold shiftP
          have := HALL.out
          rw [List.take_length] at this
          rw [if_pos HR.out, if_pos this])
        rw [List.take_length] at hown
        go_wp2_with fail
        go_ret2
        rw [HSP.out]
        exact ⟨_, rfl, owns_lower hown hb1.size, hbw⟩
end Go.Proofs.YtnpndkmcgpaibaaDoor
