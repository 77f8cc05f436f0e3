/- Sets of cells: Right, of the program and of the reference. -/
import Derived.Test.YtnpndkmcgpaibaaDoorCA
import Derived.Lib.QuietBelow
import Derived.BigQuiet
set_option linter.unusedVariables false
namespace Go.Proofs.YtnpndkmcgpaibaaDoor
open Go.RowKit Go.Sort

/-- a slice of cells that is read -/
def CRow (w : World) (v : Value) (l : List (Int × Int)) : Prop :=
  ∃ a cap, v = .slice a l.length cap ∧ ∀ i (h : i < l.length), ∃ b o, a = some ⟨b, o, none⟩ ∧ b < w.heap.size ∧
    w.cell? ⟨b, o + i * 2, none⟩ = some (.int .i64 (l[i]).1) ∧ w.cell? ⟨b, o + i * 2 + 1, none⟩ = some (.int .i64 (l[i]).2)
theorem CRow.below {w w' : World} {v : Value} {l : List (Int × Int)} (h : CRow w v l) (hb : Below w.heap.size w w') : CRow w' v l := by
  obtain ⟨a, cap, rfl, h⟩ := h
  refine ⟨a, cap, rfl, fun i hi => ?_⟩
  obtain ⟨b, o, ha, hlt, h0, h1⟩ := h i hi
  exact ⟨b, o, ha, Nat.lt_of_lt_of_le hlt hb.size, (hb.cell (p := ⟨b, _, none⟩) hlt).trans h0, (hb.cell (p := ⟨b, _, none⟩) hlt).trans h1⟩
theorem crow_at {w : World} {v : Value} {l : List (Int × Int)} (h : CRow w v l) : ∃ a cap, v = .slice a l.length cap ∧ ∀ i (h : i < l.length), ∃ b o, a = some ⟨b, o, none⟩ ∧ b < w.heap.size ∧
    w.cell? ⟨b, o + i * 2, none⟩ = some (.int .i64 (l[i]).1) ∧ w.cell? ⟨b, o + i * 2 + 1, none⟩ = some (.int .i64 (l[i]).2) := h

def okAt (l : List (Int × Int)) (i : Nat) : Bool := inB (l.getD i (0, 0)) && (i == 0 || lessB (l.getD (i - 1) (0, 0)) (l.getD i (0, 0)))
def rightB (l : List (Int × Int)) : Bool := (List.range l.length).all (okAt l) && decide (l.length ≤ 2000)
theorem getD_at {α : Type} (l : List α) (d : α) (i : Nat) (h : i < l.length) : l.getD i d = l[i] := by simp [List.getD, h]
theorem right_no {l : List (Int × Int)} {k : Nat} (hk : k < l.length) (h : okAt l k = false) : rightB l = false := by
  unfold rightB
  have : (List.range l.length).all (okAt l) = false := by
    rw [List.all_eq_false]
    exact ⟨k, List.mem_range.2 hk, by rw [h]; simp⟩
  rw [this]; rfl
theorem right_all {l : List (Int × Int)} (h : ∀ j, j < l.length → okAt l j = true) : rightB l = decide (l.length ≤ 2000) := by
  unfold rightB
  have : (List.range l.length).all (okAt l) = true := List.all_eq_true.2 fun j hj => h j (List.mem_range.1 hj)
  rw [this]; rfl

set_option maxHeartbeats 4000000 in
set_option maxRecDepth 100000 in
theorem right_walk (v : Value) (l : List (Int × Int)) (w : World) (hl : l.length ≤ 4611686018427387904) (hv : CRow w v l) :
    Calls Tryd.prog 48 #[v] w fun e w' => e = .returned (.bool (rightB l)) ∧ Below w.heap.size w w' := by
  obtain ⟨a, cap, rfl, hcs⟩ := crow_at hv
  have HC := Lib.hid hcs
  clear hcs hv
  go_enter Tryd.func48, Tryd.ntmps48
  go_wp2
  go_loopw [7] (fun i wr => ∃ k : Nat, k ≤ l.length ∧ i = .int .i64 k ∧ Below w.heap.size w wr ∧ ∀ j, j < k → okAt l j = true) (fun i _ => l.length - (intOf i).toNat)
  case atStart => exact ⟨0, Nat.zero_le _, rfl, Below.refl _ w, fun j hj => by omega⟩
  case round =>
    obtain ⟨k, hk, rfl, hbw, hok⟩ := hrel
    have HOK := Lib.hid hok
    clear hok
    by_cases hlt : k < l.length
    · obtain ⟨b, o, rfl, hbs, q0, q1⟩ := HC.out k hlt
      have p0 := (hbw.cell (p := ⟨b, o + k * 2, none⟩) hbs).trans q0
      have p1 := (hbw.cell (p := ⟨b, o + k * 2 + 1, none⟩) hbs).trans q1
      obtain ⟨⟨x, y⟩, hxy⟩ : ∃ c, l[k] = c := ⟨_, rfl⟩
      rw [hxy] at p0 p1
      dsimp only at p0 p1
      have hlt' : (k : Int) < l.length := by omega
      have n0 : (wr.alloc (Obj.cells #[Value.int IntKind.i64 x, Value.int IntKind.i64 y] 89)).cell? ⟨wr.heap.size, 0, none⟩ = some (.int .i64 x) := new_cells wr [.int .i64 x, .int .i64 y] 89 0 _ rfl
      have n1 : (wr.alloc (Obj.cells #[Value.int IntKind.i64 x, Value.int IntKind.i64 y] 89)).cell? ⟨wr.heap.size, 1, none⟩ = some (.int .i64 y) := new_cells wr [.int .i64 x, .int .i64 y] 89 1 _ rfl
      have hbW : Below w.heap.size w (wr.alloc (Obj.cells #[Value.int IntKind.i64 x, Value.int IntKind.i64 y] 89)) := hbw.alloc hbw.size _
      clear q0 q1
      go_wp2_with fail
      clear p0 p1
      generalize (wr.alloc (Obj.cells #[Value.int IntKind.i64 x, Value.int IntKind.i64 y] 89)) = W at *
      have n0' := cell_regrown n0
      have n1' := cell_regrown n1
      by_cases hin : inB (x, y) = true
      · have cI : ∀ d os, Calls Tryd.prog 70 #[.agg #[.int .i64 x, .int .i64 y]] (grow (redrawn W d) os) fun e w'' => e = .returned (.bool true) ∧ ∃ p : Regrown, w'' = grow (redrawn W p.d) p.os := fun d os => by
          have := Calls.regrown_of (in_any x y (grow (redrawn W d) os)); rw [hin] at this; exact this
        cases k with
        | zero =>
          have hk0 : okAt l 0 = true := by unfold okAt; rw [getD_at _ _ _ hlt, hxy, hin]; rfl
          clear hin
          refine wp_region_quiet_below mixed (by kernel_rfl) ?_
          repeat (go_big_quiet_step (first | exact cI _ _))
          refine wpQuiet_nil ?_
          intro _ hw'
          obtain ⟨⟨dq, osq⟩, hw''⟩ := hw'
          subst hw''
          have hbE := hbW.trans ((below_regrown W dq osq).mono hbW.size)
          go_wp2_with fail
          exact ⟨⟨1, by omega, by simp, hbE, fun j hj => by have : j = 0 := by omega
                                                            subst this; exact hk0⟩, by simp [intOf]; omega⟩
        | succ i =>
          obtain ⟨b', o', hbo, hbs', r0, r1⟩ := HC.out i (by omega)
          simp only [Option.some.injEq, Addr.mk.injEq, and_true] at hbo
          obtain ⟨rfl, rfl⟩ := hbo
          obtain ⟨⟨x', y'⟩, hxy'⟩ : ∃ c, l[i] = c := ⟨_, rfl⟩
          rw [hxy'] at r0 r1
          dsimp only at r0 r1
          have s0 := cell_regrown ((hbW.cell (p := ⟨b, o + i * 2, none⟩) hbs).trans r0)
          have s1 := cell_regrown ((hbW.cell (p := ⟨b, o + i * 2 + 1, none⟩) hbs).trans r1)
          have hoki : okAt l (i + 1) = lessB (x', y') (x, y) := by
            unfold okAt
            rw [getD_at _ _ _ hlt, Nat.add_sub_cancel, getD_at _ _ i (by omega), hxy, hxy', hin]; simp
          have hord := ordI_less (x', y') (x, y)
          have cO : ∀ d os, Calls Tryd.prog 71 #[.agg #[.int .i64 x', .int .i64 y'], .agg #[.int .i64 x, .int .i64 y]] (grow (redrawn W d) os) fun e w'' => e = .returned (.int .i64 (ordI (x', y') (x, y))) ∧ ∃ p : Regrown, w'' = grow (redrawn W p.d) p.os := fun d os =>
            Calls.regrown_of (order_any x' y' x y (grow (redrawn W d) os))
          generalize ordI (x', y') (x, y) = q at *
          have hgt : decide ((0 : Int) < (i : Int) + 1) = true := by simp
          clear hin r0 r1 hxy hxy' n0 n1
          cases hle : lessB (x', y') (x, y) with
          | true =>
            rw [hle] at hoki hord
            simp only [Bool.not_true] at hord
            refine wp_region_quiet_below mixed (by kernel_rfl) ?_
            repeat (go_big_quiet_step (first | exact cI _ _ | exact cO _ _))
            refine wpQuiet_nil ?_
            intro _ hw'
            obtain ⟨⟨dq, osq⟩, hw''⟩ := hw'
            subst hw''
            have hbE := hbW.trans ((below_regrown W dq osq).mono hbW.size)
            go_wp2_with fail
            exact ⟨⟨i + 1 + 1, by omega, by simp, hbE, fun j hj => by
              by_cases hji : j = i + 1
              · rw [hji]; exact hoki
              · exact HOK.out j (by omega)⟩, by simp [intOf]; omega⟩
          | false =>
            rw [hle] at hoki hord
            simp only [Bool.not_false] at hord
            refine wp_region_quiet_below mixed (by kernel_rfl) ?_
            repeat (go_big_quiet_step (first | exact cI _ _ | exact cO _ _))
            refine wpQuiet_nil ?_
            intro _ hw'
            obtain ⟨⟨dq, osq⟩, hw''⟩ := hw'
            subst hw''
            have hbE := hbW.trans ((below_regrown W dq osq).mono hbW.size)
            go_wp2
            go_ret
            exact ⟨retb (right_no hlt hoki).symm, hbE⟩
      · have hin' : inB (x, y) = false := by simpa using hin
        have cI : ∀ d os, Calls Tryd.prog 70 #[.agg #[.int .i64 x, .int .i64 y]] (grow (redrawn W d) os) fun e w'' => e = .returned (.bool false) ∧ ∃ p : Regrown, w'' = grow (redrawn W p.d) p.os := fun d os => by
          have := Calls.regrown_of (in_any x y (grow (redrawn W d) os)); rw [hin'] at this; exact this
        have hokf : okAt l k = false := by unfold okAt; rw [getD_at _ _ _ hlt, hxy, hin']; rfl
        clear hin hin' hxy n0 n1
        refine wp_region_quiet_below mixed (by kernel_rfl) ?_
        repeat (go_big_quiet_step (first | exact cI _ _))
        refine wpQuiet_nil ?_
        intro _ hw'
        obtain ⟨⟨dq, osq⟩, hw''⟩ := hw'
        subst hw''
        have hbE := hbW.trans ((below_regrown W dq osq).mono hbW.size)
        go_wp2
        go_ret
        exact ⟨retb (right_no hlt hokf).symm, hbE⟩
    · have hkl : k = l.length := by omega
      subst hkl
      have HFIN := Lib.hid (right_all HOK.out)
      by_cases h2 : l.length ≤ 2000
      · have h2' : (l.length : Int) ≤ 2000 := by omega
        go_wp2
        go_ret
        exact ⟨retb (by rw [HFIN.out]; simp [h2]), hbw⟩
      · have h2' : ¬ (l.length : Int) ≤ 2000 := by omega
        go_wp2
        go_ret
        exact ⟨retb (by rw [HFIN.out]; simp [h2]), hbw⟩
set_option maxHeartbeats 4000000 in
set_option maxRecDepth 100000 in
theorem rright_walk (v : Value) (l : List (Int × Int)) (w : World) (hl : l.length ≤ 4611686018427387904) (hv : CRow w v l) :
    Calls Tryd.prog 32 #[v] w fun e w' => e = .returned (.bool (rightB l)) ∧ Below w.heap.size w w' := by
  obtain ⟨a, cap, rfl, hcs⟩ := crow_at hv
  have HC := Lib.hid hcs
  clear hcs hv
  go_enter Tryd.func32, Tryd.ntmps32
  go_wp2
  go_loopw [3] (fun i wr => ∃ k : Nat, k ≤ l.length ∧ i = .int .i64 k ∧ Below w.heap.size w wr ∧ ∀ j, j < k → okAt l j = true) (fun i _ => l.length - (intOf i).toNat)
  case atStart => exact ⟨0, Nat.zero_le _, rfl, Below.refl _ w, fun j hj => by omega⟩
  case round =>
    obtain ⟨k, hk, rfl, hbW, hok⟩ := hrel
    have HOK := Lib.hid hok
    clear hok
    by_cases hlt : k < l.length
    · obtain ⟨b, o, rfl, hbs, q0, q1⟩ := HC.out k hlt
      obtain ⟨⟨x, y⟩, hxy⟩ : ∃ c, l[k] = c := ⟨_, rfl⟩
      rw [hxy] at q0 q1
      dsimp only at q0 q1
      generalize wr = W at *
      have p0 := cell_regrown ((hbW.cell (p := ⟨b, o + k * 2, none⟩) hbs).trans q0)
      have p1 := cell_regrown ((hbW.cell (p := ⟨b, o + k * 2 + 1, none⟩) hbs).trans q1)
      have hlt' : (k : Int) < l.length := by omega
      clear q0 q1
      by_cases hin : inB (x, y) = true
      · have cI : ∀ d os, Calls Tryd.prog 60 #[.agg #[.int .i64 x, .int .i64 y]] (grow (redrawn W d) os) fun e w'' => e = .returned (.bool true) ∧ ∃ p : Regrown, w'' = grow (redrawn W p.d) p.os := fun d os => by
          have := Calls.regrown_of (rin_any x y (grow (redrawn W d) os)); rw [hin] at this; exact this
        cases k with
        | zero =>
          have hk0 : okAt l 0 = true := by unfold okAt; rw [getD_at _ _ _ hlt, hxy, hin]; rfl
          simp only [Nat.zero_mul, Nat.add_zero] at p0 p1
          clear hin
          go_wp2_with fail
          refine wp_region_quiet_below mixed (by kernel_rfl) ?_
          repeat (go_big_quiet_step (first | exact cI _ _))
          refine wpQuiet_nil ?_
          intro _ hw'
          obtain ⟨⟨dq, osq⟩, hw''⟩ := hw'
          subst hw''
          have hbE := hbW.trans ((below_regrown W dq osq).mono hbW.size)
          go_wp2_with fail
          exact ⟨⟨1, by omega, by simp, hbE, fun j hj => by have : j = 0 := by omega
                                                            subst this; exact hk0⟩, by simp [intOf]; omega⟩
        | succ i =>
          obtain ⟨b', o', hbo, hbs', r0, r1⟩ := HC.out i (by omega)
          simp only [Option.some.injEq, Addr.mk.injEq, and_true] at hbo
          obtain ⟨rfl, rfl⟩ := hbo
          obtain ⟨⟨x', y'⟩, hxy'⟩ : ∃ c, l[i] = c := ⟨_, rfl⟩
          rw [hxy'] at r0 r1
          dsimp only at r0 r1
          have s0 := cell_regrown ((hbW.cell (p := ⟨b, o + i * 2, none⟩) hbs).trans r0)
          have s1 := cell_regrown ((hbW.cell (p := ⟨b, o + i * 2 + 1, none⟩) hbs).trans r1)
          have hoki : okAt l (i + 1) = lessB (x', y') (x, y) := by
            unfold okAt
            rw [getD_at _ _ _ hlt, Nat.add_sub_cancel, getD_at _ _ i (by omega), hxy, hxy', hin]; simp
          have cO : ∀ d os, Calls Tryd.prog 61 #[.agg #[.int .i64 x', .int .i64 y'], .agg #[.int .i64 x, .int .i64 y]] (grow (redrawn W d) os) fun e w'' => e = .returned (.bool (lessB (x', y') (x, y))) ∧ ∃ p : Regrown, w'' = grow (redrawn W p.d) p.os := fun d os =>
            Calls.regrown_of (rless_any x' y' x y (grow (redrawn W d) os))
          have hgt : decide ((0 : Int) < (i : Int) + 1) = true := by simp
          clear hin r0 r1 hxy hxy'
          cases hle : lessB (x', y') (x, y) with
          | true =>
            rw [hle] at hoki cO
            go_wp2_with fail
            refine wp_region_quiet_below mixed (by kernel_rfl) ?_
            repeat (go_big_quiet_step (first | exact cI _ _ | exact cO _ _))
            refine wpQuiet_nil ?_
            intro _ hw'
            obtain ⟨⟨dq, osq⟩, hw''⟩ := hw'
            subst hw''
            have hbE := hbW.trans ((below_regrown W dq osq).mono hbW.size)
            go_wp2_with fail
            exact ⟨⟨i + 1 + 1, by omega, by simp, hbE, fun j hj => by
              by_cases hji : j = i + 1
              · rw [hji]; exact hoki
              · exact HOK.out j (by omega)⟩, by simp [intOf]; omega⟩
          | false =>
            rw [hle] at hoki cO
            go_wp2_with fail
            refine wp_region_quiet_below mixed (by kernel_rfl) ?_
            repeat (go_big_quiet_step (first | exact cI _ _ | exact cO _ _))
            refine wpQuiet_nil ?_
            intro _ hw'
            obtain ⟨⟨dq, osq⟩, hw''⟩ := hw'
            subst hw''
            have hbE := hbW.trans ((below_regrown W dq osq).mono hbW.size)
            go_wp2
            go_ret
            exact ⟨retb (right_no hlt hoki).symm, hbE⟩
      · have hin' : inB (x, y) = false := by simpa using hin
        have cI : ∀ d os, Calls Tryd.prog 60 #[.agg #[.int .i64 x, .int .i64 y]] (grow (redrawn W d) os) fun e w'' => e = .returned (.bool false) ∧ ∃ p : Regrown, w'' = grow (redrawn W p.d) p.os := fun d os => by
          have := Calls.regrown_of (rin_any x y (grow (redrawn W d) os)); rw [hin'] at this; exact this
        have hokf : okAt l k = false := by unfold okAt; rw [getD_at _ _ _ hlt, hxy, hin']; rfl
        clear hin hin' hxy
        go_wp2_with fail
        refine wp_region_quiet_below mixed (by kernel_rfl) ?_
        repeat (go_big_quiet_step (first | exact cI _ _))
        refine wpQuiet_nil ?_
        intro _ hw'
        obtain ⟨⟨dq, osq⟩, hw''⟩ := hw'
        subst hw''
        have hbE := hbW.trans ((below_regrown W dq osq).mono hbW.size)
        go_wp2
        go_ret
        exact ⟨retb (right_no hlt hokf).symm, hbE⟩
    · have hkl : k = l.length := by omega
      subst hkl
      have HFIN := Lib.hid (right_all HOK.out)
      by_cases h2 : l.length ≤ 2000
      · have h2' : (l.length : Int) ≤ 2000 := by omega
        go_wp2
        go_ret
        exact ⟨retb (by rw [HFIN.out]; simp [h2]), hbW⟩
      · have h2' : ¬ (l.length : Int) ≤ 2000 := by omega
        go_wp2
        go_ret
        exact ⟨retb (by rw [HFIN.out]; simp [h2]), hbW⟩
end Go.Proofs.YtnpndkmcgpaibaaDoor
