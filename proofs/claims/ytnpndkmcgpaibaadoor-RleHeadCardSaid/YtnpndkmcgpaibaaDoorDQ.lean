/- Rows' machinery for chapter 5: cells that came in, and what the walks ask of a world. -/
import Derived.Test.YtnpndkmcgpaibaaDoorQ
import Derived.Test.YtnpndkmcgpaibaaDoorDA
set_option linter.unusedVariables false
namespace Go.Proofs.YtnpndkmcgpaibaaDoor
open Go.ChangeShapes Go.WideShapes Go.ChangeAt Go.RowKit Go.Deep
theorem good5 {W : World} (h : laidMetH Tryd.prog Rows.tokenTellsRow.laid W) (hs : W.ShapedOpen Tryd.prog) : Good5 W :=
  ⟨good h hs, Tryd.laysM145.s1_3 W hs⟩
theorem bytes89 : Tryd.prog.bytesOf 89 = 16 := by kernel_rfl
theorem gcells89 : Tryd.prog.cellsOf 89 = 2 := by kernel_rfl
section
variable {H : Type} {enc : TypeId × Value → H} {W : World}
set_option maxRecDepth 100000 in
theorem open_cells {v : Value} {d : DataW H} {ps : List MemPlace} (hval : Value.okWide Tryd.prog W .any 0 43 v) (h : DataW.Trod enc Tryd.prog W 0 (fun _ => true) true 43 v d ps) (hlt : ∀ x ∈ ps, x.block < W.heap.size) :
    ∃ (l : List (Int × Int)) (a : Option Addr) (cap : Nat), v = .slice a l.length cap ∧ l.length ≤ cap ∧ CRow W (.slice a l.length cap) l ∧ (∀ sz : Nat, (∀ el spr, d = .slice el spr → (el.length + spr.length) * 16 ≤ sz) → l.length * 16 ≤ sz) := by
  obtain ⟨a0, len0, cap0, rfl⟩ := okWide_slice Tryd.underlying43 hval
  obtain ⟨fuel, hf⟩ := h
  rcases open_slice Tryd.underlying43 hf with ⟨hcs, hx⟩ | ⟨a, len, cap, m, n, D, Pl, hcs, _, hl, hm, hmm, hx, hel⟩
  · simp [Value.cells] at hcs
    obtain ⟨rfl, rfl, rfl⟩ := hcs
    refine ⟨[], none, 0, rfl, Nat.le_refl _, ⟨none, 0, rfl, fun i hi => by simp at hi⟩, ?_⟩
    intro sz _; simp
  · simp [Value.cells] at hcs
    obtain ⟨rfl, rfl, rfl⟩ := hcs
    rw [if_pos rfl] at hmm
    subst hmm
    simp only [Prod.mk.injEq] at hx
    obtain ⟨rfl, rfl⟩ := hx
    have each : ∀ i, i < len0 → ∃ x : Int × Int, W.cell? (a.add (i * 2)) = some (.int .i64 x.1) ∧ W.cell? (a.add (i * 2 + 1)) = some (.int .i64 x.2) := by
      intro i hi
      obtain ⟨cs', h1, h2⟩ := hel i (by omega)
      rw [gcells89] at h1
      obtain ⟨_, hlen, hcell⟩ := World.cells?_some h1
      obtain ⟨y0, y1, k, _, _, g0, g1⟩ := trod_struct2 Tryd.underlying89 h2
      match cs', hlen with
      | [v0, v1], _ =>
        simp [gcells3] at g0 g1
        obtain ⟨n0, e0, -, w0⟩ := DataW.trod_int Tryd.underlying3 g0
        obtain ⟨n1, e1, -, w1⟩ := DataW.trod_int Tryd.underlying3 g1
        simp at e0 e1
        subst e0 e1
        have c0 := hcell 0 (by omega)
        have c1 := hcell 1 (by omega)
        rw [add_add] at c0 c1
        exact ⟨(n0, n1), by simpa using c0, by simpa using c1⟩
    obtain ⟨f, hfx⟩ := choose_lt each
    refine ⟨(List.range len0).map f, some a, m, by simp, ?_, ⟨some a, m, by simp, fun i hi => ?_⟩, fun sz hsz => ?_⟩
    · simp; omega
    · have hi' : i < len0 := by simpa using hi
      obtain ⟨q0, q1⟩ := hfx i hi'
      obtain ⟨b, off, spot⟩ := a
      have hspot : spot = none := by simpa [Addr.add] using World.cell?_spot (hfx 0 (by omega)).1
      subst hspot
      rw [range_get]
      rw [add_plain] at q0 q1
      refine ⟨b, off, rfl, ?_, q0, q1⟩
      exact hlt (.cell b off) (List.mem_append_left _ (MemPlace.mem_row.2 ⟨0, by rw [gcells89]; omega, rfl⟩))
    · have := hsz _ _ rfl
      simp at this ⊢
      omega
set_option maxRecDepth 100000 in
theorem open_strrow {v : Value} {d : DataW H} {ps : List MemPlace} (hval : Value.okWide Tryd.prog W .any 0 28 v) (h : DataW.Trod enc Tryd.prog W 0 (fun _ => true) true 28 v d ps) (hlt : ∀ x ∈ ps, x.block < W.heap.size) :
    ∃ ls : List (List UInt8), ∃ a cap, v = .slice a ls.length cap ∧ ls.length ≤ 9223372036854775807 ∧ ∀ i (h : i < ls.length), ∃ b o, a = some ⟨b, o, none⟩ ∧ b < W.heap.size ∧ W.cell? ⟨b, o + i, none⟩ = some (.string (S ls[i])) ∧ ls[i].length ≤ 9223372036854775807 := by
  obtain ⟨a0, len0, cap0, rfl⟩ := okWide_slice Tryd.underlying28 hval
  obtain ⟨fuel, hf⟩ := h
  rcases open_strs Tryd.underlying28 Tryd.underlying9 (by kernel_rfl) hf with ⟨hcs, hx⟩ | ⟨a, len, cap, m, Sx, hcs, _, hl, hm, hmm, hx, hel⟩
  · simp [Value.cells] at hcs
    obtain ⟨rfl, rfl, rfl⟩ := hcs
    exact ⟨[], none, 0, rfl, by simp, fun i hi => by simp at hi⟩
  · simp [Value.cells] at hcs
    obtain ⟨rfl, rfl, rfl⟩ := hcs
    rw [if_pos rfl] at hmm
    subst hmm
    simp only [Prod.mk.injEq] at hx
    obtain ⟨rfl, rfl⟩ := hx
    have hlen : ((List.range len0).map fun i => (Sx i).data.toList).length = len0 := by rw [List.length_map, List.length_range]
    refine ⟨(List.range len0).map fun i => (Sx i).data.toList, some a, m, by rw [hlen], by rw [hlen]; exact Nat.le_trans hl hm, fun i hi => ?_⟩
    have hi' : i < len0 := by rw [hlen] at hi; exact hi
    obtain ⟨q0, q1⟩ := hel i (by omega)
    obtain ⟨b, off, spot⟩ := a
    have hspot : spot = none := by simpa [Addr.add] using World.cell?_spot (hel 0 (by omega)).1
    subst hspot
    rw [range_get]
    rw [add_plain] at q0
    refine ⟨b, off, rfl, ?_, q0, ?_⟩
    · exact hlt (.cell b off) (MemPlace.mem_row.2 ⟨0, by omega, rfl⟩)
    · rw [Array.length_toList]; exact q1
end
end Go.Proofs.YtnpndkmcgpaibaaDoor
