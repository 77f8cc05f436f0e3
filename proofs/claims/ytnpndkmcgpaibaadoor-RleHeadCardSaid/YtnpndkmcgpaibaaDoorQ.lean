/- What the rows of chapters 4 and 5 share: arguments opened, the answer 'true' with the arguments unchanged. -/
import Derived.Test.YtnpndkmcgpaibaaDoorK
import Derived.Test.YtnpndkmcgpaibaaDoorCards
import Derived.Test.YtnpndkmcgpaibaaDoorTie
import Derived.ProofKit
import Derived.OpenShut
import Derived.Carry
import Derived.ReadAgain
import Derived.SizedLaws
import Derived.Deep.DeepHandedRow
import Derived.Deep.Strs
import Derived.Deep.SlicePairs
import Derived.Lib.LaidTab
set_option linter.unusedVariables false
namespace Go.Proofs.YtnpndkmcgpaibaaDoor
open Go.RowKit Go.ChangeShapes Go.WideShapes Go.Deep

theorem own : ownKnob Tryd.prog.godebug = none := by kernel_rfl
theorem laidOut : laidOutB Tryd.prog = true := by kernel_rfl
theorem bytes37 : Tryd.prog.bytesOf 37 = 24 := by kernel_rfl
theorem bytes66 : Tryd.prog.bytesOf 66 = 16 := by kernel_rfl
theorem bytes3 : Tryd.prog.bytesOf 3 = 8 := by kernel_rfl
theorem gcells37 : Tryd.prog.cellsOf 37 = 3 := by kernel_rfl
theorem gcells66 : Tryd.prog.cellsOf 66 = 2 := by kernel_rfl
theorem gcells3 : Tryd.prog.cellsOf 3 = 1 := by kernel_rfl
theorem gcells5 : Tryd.prog.cellsOf 5 = 1 := by kernel_rfl

section
variable {H : Type} {enc : TypeId × Value → H} {W W' : World}
theorem reads_below : ∀ {ts : List TypeId} {vs : List Value} {ds : List (DataW H)} {ps : List MemPlace}, (∀ t ∈ ts, Tryd.prog.readableRec t = true ∧ t < Tryd.prog.types.size) →
    DataW.TrodAll enc Tryd.prog W 0 (fun _ => true) true ts vs ds ps → Below W.heap.size W W' → (∀ x ∈ ps, x.block < W.heap.size) →
    DataW.TrodAll enc Tryd.prog W' 0 (fun b => decide (b < W.heap.size)) true ts vs ds ps
  | [], [], [], _, _, h, _, _ => h
  | t :: ts, v :: vs, d :: ds, ps, hr, h, hb, hlt => by
    obtain ⟨p, q, h1, h2, he⟩ := h
    subst he
    exact ⟨p, q, Below.trod laidOut (hr t (List.mem_cons_self ..)).1 (hr t (List.mem_cons_self ..)).2 h1 hb (fun x hx => hlt x (List.mem_append_left _ hx)),
      reads_below (fun t' ht' => hr t' (List.mem_cons_of_mem _ ht')) h2 hb (fun x hx => hlt x (List.mem_append_right _ hx)), rfl⟩

theorem post_true {fn : Func} {s : ChangeSpec} {args : Array Value} {ds gs : List (DataW H)} {before : List MemPlace} (hres : fn.resultTypes = #[4])
    (hpar : (fn.params.toList.all fun t => Tryd.prog.readableRec t && decide (t < Tryd.prog.types.size)) = true) (hv : s.vars = [])
    (hW : DataW.Whole enc Tryd.prog fn.params.toList s.vars false W args.toList ds gs before) (hs : s.fn H ds = { results := [.lit (.bool true)], args := ds })
    (hb : Below W.heap.size W W') : s.post enc Tryd.prog fn false true false false W args (.bool true) W' := by
  have hW' := hW
  obtain ⟨p, q, hA, hV, hpq, _, _⟩ := hW
  rw [hv] at hV
  obtain ⟨rfl, rfl⟩ := trodVars_none hV
  have hlt : ∀ x ∈ p, x.block < W.heap.size := fun x hx => hW'.lt x (by rw [hpq]; exact List.mem_append_left _ hx)
  refine ⟨ds, [], before, [], p, [], hW', ?_, ?_, ?_, hb.frame _, fun h => by cases h⟩
  · rw [List.append_nil, hs, hres]
    exact trodAll_cons_mk (shut_bool Tryd.underlying4 _) trodAll_mk0
  · rw [List.append_nil, hs]
    exact reads_below (fun t ht => by simpa using List.all_eq_true.1 hpar t ht) hA hb hlt
  · rw [hv, List.append_nil, hs]; rfl

/-! ### arguments opened -/
theorem wf_u8 {n : Int} (h : (Lit.int .u8 n).wf = true) : ∃ c : UInt8, n = c.toNat := by
  have hb : 0 ≤ n ∧ n ≤ 255 := bounds_u8 h
  refine ⟨UInt8.ofNat n.toNat, ?_⟩
  rw [UInt8.toNat_ofNat']
  omega

instance : Inhabited It := ⟨⟨0, 0, 0⟩⟩
theorem range_get {α : Type} (f : Nat → α) (n i : Nat) (h : i < ((List.range n).map f).length) : ((List.range n).map f)[i] = f i := by simp

set_option maxRecDepth 100000 in
theorem open_items {v : Value} {d : DataW H} {ps : List MemPlace} (hval : Value.okWide Tryd.prog W .any 0 22 v) (h : DataW.Trod enc Tryd.prog W 0 (fun _ => true) true 22 v d ps) (hlt : ∀ x ∈ ps, x.block < W.heap.size) :
    ∃ its : List It, ItRow W v its ∧ (∀ sz : Nat, (∀ el spr, d = .slice el spr → (el.length + spr.length) * 24 ≤ sz) → its.length * 24 ≤ sz) ∧
      ∀ x ∈ its, -9223372036854775808 ≤ x.n ∧ x.n ≤ 9223372036854775807 ∧ -9223372036854775808 ≤ x.at_ ∧ x.at_ ≤ 9223372036854775807 := by
  obtain ⟨a0, len0, cap0, rfl⟩ := okWide_slice Tryd.underlying22 hval
  obtain ⟨fuel, hf⟩ := h
  rcases open_slice Tryd.underlying22 hf with ⟨hcs, hx⟩ | ⟨a, len, cap, m, n, D, Pl, hcs, _, hl, hm, hmm, hx, hel⟩
  · simp [Value.cells] at hcs
    obtain ⟨rfl, rfl, rfl⟩ := hcs
    refine ⟨[], ⟨none, 0, rfl, fun i hi => by simp at hi⟩, ?_, by simp⟩
    intro sz _; simp
  · simp [Value.cells] at hcs
    obtain ⟨rfl, rfl, rfl⟩ := hcs
    rw [if_pos rfl] at hmm
    subst hmm
    simp only [Prod.mk.injEq] at hx
    obtain ⟨rfl, rfl⟩ := hx
    have each : ∀ i, i < len0 → ∃ x : It, W.cell? (a.add (i * 3)) = some (.int .u8 x.tag.toNat) ∧ W.cell? (a.add (i * 3 + 1)) = some (.int .i64 x.n) ∧ W.cell? (a.add (i * 3 + 2)) = some (.int .i64 x.at_) ∧
        -9223372036854775808 ≤ x.n ∧ x.n ≤ 9223372036854775807 ∧ -9223372036854775808 ≤ x.at_ ∧ x.at_ ≤ 9223372036854775807 := by
      intro i hi
      obtain ⟨cs', h1, h2⟩ := hel i (by omega)
      rw [gcells37] at h1
      obtain ⟨_, hlen, hcell⟩ := World.cells?_some h1
      obtain ⟨y0, y1, y2, k, _, _, g0, g1, g2⟩ := trod_struct3 Tryd.underlying37 h2
      match cs', hlen with
      | [v0, v1, v2], _ =>
        simp [gcells3, gcells5] at g0 g1 g2
        obtain ⟨n0, e0, -, w0⟩ := DataW.trod_int Tryd.underlying5 g0
        obtain ⟨n1, e1, -, w1⟩ := DataW.trod_int Tryd.underlying3 g1
        obtain ⟨n2, e2, -, w2⟩ := DataW.trod_int Tryd.underlying3 g2
        simp at e0 e1 e2
        subst e0 e1 e2
        obtain ⟨c, rfl⟩ := wf_u8 w0
        have b1 := bounds_i64 w1
        have b2 := bounds_i64 w2
        have c0 := hcell 0 (by omega)
        have c1 := hcell 1 (by omega)
        have c2 := hcell 2 (by omega)
        rw [add_add] at c0 c1 c2
        exact ⟨⟨c, n1, n2⟩, by simpa using c0, by simpa using c1, by simpa using c2, b1.1, b1.2, b2.1, b2.2⟩
    obtain ⟨f, hfx⟩ := choose_lt each
    refine ⟨(List.range len0).map f, ⟨some a, m, by simp, fun i hi => ?_⟩, fun sz hsz => ?_, ?_⟩
    · have hi' : i < len0 := by simpa using hi
      obtain ⟨q0, q1, q2, _⟩ := hfx i hi'
      obtain ⟨b, off, spot⟩ := a
      have hspot : spot = none := by simpa [Addr.add] using World.cell?_spot (hfx 0 (by omega)).1
      subst hspot
      rw [range_get]
      rw [add_plain] at q0 q1 q2
      refine ⟨b, off, rfl, ?_, q0, q1, q2⟩
      exact hlt (.cell b off) (List.mem_append_left _ (MemPlace.mem_row.2 ⟨0, by rw [gcells37]; omega, rfl⟩))
    · have := hsz _ _ rfl
      simp at this ⊢
      omega
    · intro x hx
      obtain ⟨i, hi, rfl⟩ := List.mem_map.1 hx
      exact (hfx i (List.mem_range.1 hi)).2.2.2

set_option maxRecDepth 100000 in
theorem open_raws {v : Value} {d : DataW H} {ps : List MemPlace} (hval : Value.okWide Tryd.prog W .any 0 23 v) (h : DataW.Trod enc Tryd.prog W 0 (fun _ => true) true 23 v d ps) (hlt : ∀ x ∈ ps, x.block < W.heap.size) :
    ∃ raw : List (Int × Int), RawRow W v raw ∧ (∀ sz : Nat, (∀ el spr, d = .slice el spr → (el.length + spr.length) * 16 ≤ sz) → raw.length * 16 ≤ sz) := by
  obtain ⟨a0, len0, cap0, rfl⟩ := okWide_slice Tryd.underlying23 hval
  obtain ⟨fuel, hf⟩ := h
  rcases open_slice Tryd.underlying23 hf with ⟨hcs, hx⟩ | ⟨a, len, cap, m, n, D, Pl, hcs, _, hl, hm, hmm, hx, hel⟩
  · simp [Value.cells] at hcs
    obtain ⟨rfl, rfl, rfl⟩ := hcs
    refine ⟨[], ⟨⟨none, 0, rfl, fun i hi => by simp at hi⟩, by simp⟩, ?_⟩
    intro sz _; simp
  · simp [Value.cells] at hcs
    obtain ⟨rfl, rfl, rfl⟩ := hcs
    rw [if_pos rfl] at hmm
    subst hmm
    simp only [Prod.mk.injEq] at hx
    obtain ⟨rfl, rfl⟩ := hx
    have each : ∀ i, i < len0 → ∃ x : Int × Int, W.cell? (a.add (i * 2)) = some (.int .i64 x.1) ∧ W.cell? (a.add (i * 2 + 1)) = some (.int .i64 x.2) ∧
        -9223372036854775808 ≤ x.1 ∧ x.1 ≤ 9223372036854775807 ∧ -9223372036854775808 ≤ x.2 ∧ x.2 ≤ 9223372036854775807 := by
      intro i hi
      obtain ⟨cs', h1, h2⟩ := hel i (by omega)
      rw [gcells66] at h1
      obtain ⟨_, hlen, hcell⟩ := World.cells?_some h1
      obtain ⟨xs, k, _, _, _, hxl, hall⟩ := DataW.trod_array Tryd.underlying66 h2
      match cs', hlen, xs, hxl with
      | [v0, v1], _, [y0, y1], _ =>
        have g0 := hall 0 (by omega)
        have g1 := hall 1 (by omega)
        simp [gcells3] at g0 g1
        obtain ⟨n0, e0, -, w0⟩ := DataW.trod_int Tryd.underlying3 g0
        obtain ⟨n1, e1, -, w1⟩ := DataW.trod_int Tryd.underlying3 g1
        simp at e0 e1
        subst e0 e1
        have b0 := bounds_i64 w0
        have b1 := bounds_i64 w1
        have c0 := hcell 0 (by omega)
        have c1 := hcell 1 (by omega)
        rw [add_add] at c0 c1
        exact ⟨(n0, n1), by simpa using c0, by simpa using c1, b0.1, b0.2, b1.1, b1.2⟩
    obtain ⟨f, hfx⟩ := choose_lt each
    refine ⟨(List.range len0).map f, ⟨⟨some a, m, by simp, fun i hi => ?_⟩, ?_⟩, fun sz hsz => ?_⟩
    · have hi' : i < len0 := by simpa using hi
      obtain ⟨q0, q1, _⟩ := hfx i hi'
      obtain ⟨b, off, spot⟩ := a
      have hspot : spot = none := by simpa [Addr.add] using World.cell?_spot (hfx 0 (by omega)).1
      subst hspot
      rw [range_get]
      rw [add_plain] at q0 q1
      refine ⟨b, off, rfl, ?_, q0, q1⟩
      exact hlt (.cell b off) (List.mem_append_left _ (MemPlace.mem_row.2 ⟨0, by rw [gcells66]; omega, rfl⟩))
    · intro x hx
      obtain ⟨i, hi, rfl⟩ := List.mem_map.1 hx
      exact (hfx i (List.mem_range.1 hi)).2.2
    · have := hsz _ _ rfl
      simp at this ⊢
      omega

/-- a slice of ints that is read -/
def IntRow (w : World) (v : Value) (l : List Int) : Prop :=
  (∃ a cap, v = .slice a l.length cap ∧ ∀ i (h : i < l.length), ∃ b o, a = some ⟨b, o, none⟩ ∧ b < w.heap.size ∧ w.cell? ⟨b, o + i, none⟩ = some (.int .i64 l[i])) ∧
  ∀ x ∈ l, -9223372036854775808 ≤ x ∧ x ≤ 9223372036854775807
theorem IntRow.below {w w' : World} {v : Value} {l : List Int} (h : IntRow w v l) (hb : Below w.heap.size w w') : IntRow w' v l := by
  obtain ⟨⟨a, cap, rfl, h⟩, hr⟩ := h
  refine ⟨⟨a, cap, rfl, fun i hi => ?_⟩, hr⟩
  obtain ⟨b, o, ha, hlt, h0⟩ := h i hi
  exact ⟨b, o, ha, Nat.lt_of_lt_of_le hlt hb.size, (hb.cell (p := ⟨b, _, none⟩) hlt).trans h0⟩

set_option maxRecDepth 100000 in
theorem open_introw {v : Value} {d : DataW H} {ps : List MemPlace} (hval : Value.okWide Tryd.prog W .any 0 35 v) (h : DataW.Trod enc Tryd.prog W 0 (fun _ => true) true 35 v d ps) (hlt : ∀ x ∈ ps, x.block < W.heap.size) :
    ∃ l : List Int, IntRow W v l ∧ (∀ sz : Nat, (∀ el spr, d = .slice el spr → (el.length + spr.length) * 8 ≤ sz) → l.length * 8 ≤ sz) := by
  obtain ⟨a0, len0, cap0, rfl⟩ := okWide_slice Tryd.underlying35 hval
  obtain ⟨fuel, hf⟩ := h
  rcases open_slice Tryd.underlying35 hf with ⟨hcs, hx⟩ | ⟨a, len, cap, m, n, D, Pl, hcs, _, hl, hm, hmm, hx, hel⟩
  · simp [Value.cells] at hcs
    obtain ⟨rfl, rfl, rfl⟩ := hcs
    refine ⟨[], ⟨⟨none, 0, rfl, fun i hi => by simp at hi⟩, by simp⟩, ?_⟩
    intro sz _; simp
  · simp [Value.cells] at hcs
    obtain ⟨rfl, rfl, rfl⟩ := hcs
    rw [if_pos rfl] at hmm
    subst hmm
    simp only [Prod.mk.injEq] at hx
    obtain ⟨rfl, rfl⟩ := hx
    have each : ∀ i, i < len0 → ∃ x : Int, W.cell? (a.add i) = some (.int .i64 x) ∧ -9223372036854775808 ≤ x ∧ x ≤ 9223372036854775807 := by
      intro i hi
      obtain ⟨cs', h1, h2⟩ := hel i (by omega)
      rw [gcells3] at h1
      obtain ⟨_, hlen, hcell⟩ := World.cells?_some h1
      match cs', hlen with
      | [v0], _ =>
        obtain ⟨n0, e0, -, w0⟩ := DataW.trod_int Tryd.underlying3 h2
        simp at e0
        subst e0
        have b0 := bounds_i64 w0
        have c0 := hcell 0 (by omega)
        rw [add_add] at c0
        exact ⟨n0, by simpa using c0, b0.1, b0.2⟩
    obtain ⟨f, hfx⟩ := choose_lt each
    refine ⟨(List.range len0).map f, ⟨⟨some a, m, by simp, fun i hi => ?_⟩, ?_⟩, fun sz hsz => ?_⟩
    · have hi' : i < len0 := by simpa using hi
      obtain ⟨q0, _⟩ := hfx i hi'
      obtain ⟨b, off, spot⟩ := a
      have hspot : spot = none := by simpa [Addr.add] using World.cell?_spot (hfx 0 (by omega)).1
      subst hspot
      rw [range_get]
      rw [add_plain] at q0
      refine ⟨b, off, rfl, ?_, q0⟩
      exact hlt (.cell b off) (List.mem_append_left _ (MemPlace.mem_row.2 ⟨0, by rw [gcells3]; omega, rfl⟩))
    · intro x hx
      obtain ⟨i, hi, rfl⟩ := List.mem_map.1 hx
      exact (hfx i (List.mem_range.1 hi)).2
    · have := hsz _ _ rfl
      simp at this ⊢
      omega
end

/-! ### the table on the row's list, and a world for the witness -/
theorem gPowType : (Tryd.prog.globals[1]?).map (·.type) = some 133 := by kernel_rfl
theorem gcells133 : Tryd.prog.cellsOf 133 = 20 := by kernel_rfl
theorem gcells125 : Tryd.prog.cellsOf 125 = 1 := by kernel_rfl
theorem table {W : World} (h : laidMetH Tryd.prog Rows.tokenTellsRow.laid W) : Lib.TabIs Tryd.prog W "internal/strconv.uint64pow10" .u64 Lib.pow10Tab :=
  Lib.tabIs_of_head (rest := []) gPow gPowType Tryd.underlying133 Tryd.underlying125 gcells125 gcells133
    ((laidMetH_iff.1 (h.filter fun x => x.1 == "internal/strconv.uint64pow10")).1)
theorem gsize : Tryd.prog.globals.size = 4 := by kernel_rfl
theorem hsize : (begin Tryd.prog (fun _ _ => 0) default).world.heap.size = 9 := by kernel_rfl
theorem good {W : World} (h : laidMetH Tryd.prog Rows.tokenTellsRow.laid W) (hs : W.ShapedOpen Tryd.prog) : Good W := by
  refine ⟨table h, ?_⟩
  obtain ⟨o, o0, ho, -⟩ := hs.2 8 (by rw [gsize]; omega) (by rw [hsize]; omega)
  have := (Array.getElem?_eq_some_iff.1 ho).1
  omega

/-! ### a world for the witness: the settled one, the listed tables holding what the list says -/
def valsOf : DataW Unit → Array Value
  | .agg l => (l.map fun d => match d with | .lit (.int k n) => Value.int k n | _ => undef).toArray
  | _ => #[]
noncomputable def lay (x : String × DataW Unit) (w : World) : World :=
  { w with heap := w.heap.modify ((Tryd.prog.globalNamed x.1).getD 0) fun
      | .cells _ t frozen => .cells (valsOf x.2) t frozen
      | o => o }
noncomputable def laidWorld (os : Os) : World := Rows.tokenTellsRow.laid.foldl (fun w x => lay x w) (World.holding Tryd.prog os ⟨#[], #[], []⟩)
end Go.Proofs.YtnpndkmcgpaibaaDoor
