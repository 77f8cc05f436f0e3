/- Walks of the token package, second text. -/
import Derived.Test.YtnpndkmcgpaibaaDoorA
import Derived.Lib.QuietBelow
import Derived.BigQuiet
import Derived.Deep.RegionWith
import Derived.Deep.RegionHeld3
import Derived.StillTailTactics
set_option linter.unusedVariables false
namespace Go.Proofs.YtnpndkmcgpaibaaDoor
open Go.RowKit Go.Sort

theorem mixed : Tryd.prog.follows .mixedOrders = true := by kernel_rfl
/-- the two sets -/
theorem asc_digits : ∀ (j : Nat) (h : j < digitsS.length), (digitsS[j]).toNat < 128 := by decide
theorem asc_blanks : ∀ (j : Nat) (h : j < blanksS.length), (blanksS[j]).toNat < 128 := by decide
theorem has_digits : (fun c => has digitsS c) = isDigit := funext digits_has
theorem has_blanks : (fun c => has blanksS c) = isBlank := funext blanks_has

set_option maxHeartbeats 1000000 in
theorem run_any (b o : Nat) (l set : List UInt8) (w : World) (hl : l.length ≤ 4611686018427387904) (hset : set.length ≤ 100) (hasc : ∀ (j : Nat) (h : j < set.length), (set[j]).toNat < 128)
    (c0 : w.cell? ⟨b, o, none⟩ = some (.string (S l))) :
    Calls Tryd.prog 37 #[.pointer (some ⟨b, o, none⟩), .string (S set)] w fun e w' => e = .returned (.int .i64 (runLen (fun c => has set c) l)) ∧ Below w.heap.size w w' := by
  have hle := runLen_le (fun c => has set c) l
  have hsz := S_size l
  have hsz2 := S_size (l.drop (runLen (fun c => has set c) l))
  rw [List.length_drop] at hsz2
  have k0 := cell_regrown c0
  have cQ : ∀ d os, Calls Tryd.prog 63 #[.string (S l), .string (S set)] (grow (redrawn w d) os) fun e w'' => e = .returned (.string (S (l.drop (runLen (fun c => has set c) l)))) ∧ ∃ p : Regrown, w'' = grow (redrawn w p.d) p.os := fun d os => Calls.regrown_of (cutLeft_any l set _ hl hset hasc)
  have hsub : IntKind.i64.wrap ((l.length : Int) - ((l.length - runLen (fun c => has set c) l : Nat) : Int)) = (runLen (fun c => has set c) l : Nat) := by
    rw [IntWalk.i64_in _ (by omega)]; omega
  generalize runLen (fun c => has set c) l = k at *
  go_enter Tryd.func37, Tryd.ntmps37
  go_wp2
  refine wp_region_quiet_below mixed (by kernel_rfl) ?_
  repeat (quiet_step (first | exact cQ _ _))
  refine wpQuiet_nil ?_
  intro _ hw'
  obtain ⟨⟨dq, osq⟩, hw''⟩ := hw'
  subst hw''
  go_wp2
  go_ret
  exact ⟨rfl, below_regrown w dq osq⟩

/-- a reader's block -/
def RD (w : World) (b : Nat) (l : List UInt8) (at_ : Int) : Prop := w.heap[b]? = some (.cells #[.string (S l), .int .i64 at_] 72 (0, 0))
theorem RD.c0 {w : World} {b : Nat} {l : List UInt8} {at_ : Int} (h : RD w b l at_) : w.cell? ⟨b, 0, none⟩ = some (.string (S l)) := by rw [Lib.cell_of_heap h]; rfl
theorem RD.c1 {w : World} {b : Nat} {l : List UInt8} {at_ : Int} (h : RD w b l at_) : w.cell? ⟨b, 1, none⟩ = some (.int .i64 at_) := by rw [Lib.cell_of_heap h]; rfl
theorem RD.f0 {w : World} {b : Nat} {l : List UInt8} {at_ : Int} (h : RD w b l at_) (o : Nat) : w.frozen? ⟨b, o, none⟩ = false := Lib.frozen_of_heap h o
theorem RD.lt {w : World} {b : Nat} {l : List UInt8} {at_ : Int} (h : RD w b l at_) : b < w.heap.size := (Array.getElem?_eq_some_iff.1 h).1
theorem RD.below {w w' : World} {b B : Nat} {l : List UInt8} {at_ : Int} (h : RD w b l at_) (hb : Below B w w') (hB : b < B) : RD w' b l at_ := (hb.block b hB).trans h
theorem grownBy_set2 (w : World) (b : Nat) (u v : Value) : w.grownBy ((w.setCell ⟨b, 0, none⟩ u).setCell ⟨b, 1, none⟩ v) (some b) := by
  refine ⟨rfl, rfl, rfl, by simp [World.setCell], fun k hk hne => ?_⟩
  have hkb : k ≠ b := fun e => hne (by rw [e])
  rw [Below.heap_setCell _ _ _ _ hkb, Below.heap_setCell _ _ _ _ hkb]
theorem block_set2 (w : World) (b : Nat) (u v u' v' : Value) (T : TypeId) (h : w.heap[b]? = some (.cells #[u, v] T (0, 0))) :
    ((w.setCell ⟨b, 0, none⟩ u').setCell ⟨b, 1, none⟩ v').heap[b]? = some (.cells #[u', v'] T (0, 0)) := by
  simp [World.setCell, Array.getElem?_modify, h]

theorem run_rd (b : Nat) (l set : List UInt8) (at_ : Int) (w : World) (hl : l.length ≤ 4611686018427387904) (hset : set.length ≤ 100) (hasc : ∀ (j : Nat) (h : j < set.length), (set[j]).toNat < 128)
    (h : RD w b l at_) :
    Calls Tryd.prog 37 #[.pointer (some ⟨b, 0, none⟩), .string (S set)] w fun e w' => e = .returned (.int .i64 (runLen (fun c => has set c) l)) ∧ RD w' b l at_ ∧ Below w.heap.size w w' :=
  (run_any b 0 l set w hl hset hasc h.c0).mono fun e w' ⟨he, hb⟩ => ⟨he, h.below hb h.lt, hb⟩

theorem grownBy_drew {w w' : World} {r : Option Nat} (h : w.grownBy w' r) : w.grownBy w'.drew r := ⟨h.os, h.tape, h.output, h.size, h.block⟩

set_option maxHeartbeats 1000000 in
theorem skip_rd (b : Nat) (l : List UInt8) (at_ : Int) (n : Nat) (w : World) (hl : l.length ≤ 100000) (hn : n ≤ l.length) (h0 : 0 ≤ at_) (h1 : at_ ≤ 100000) (h : RD w b l at_) :
    Calls Tryd.prog 36 #[.pointer (some ⟨b, 0, none⟩), .int .i64 n] w fun e w' => e = .returned (.string (S (l.take n))) ∧ RD w' b (l.drop n) (at_ + n) ∧ w.grownBy w' (some b) := by
  have hsz := S_size l
  have c0 := h.c0
  have c1 := h.c1
  have f0 := h.f0 0
  have f1 := h.f0 1
  go_enter Tryd.func36, Tryd.ntmps36
  go_wp2
  go_region
  all_goals go_wp2
  all_goals go_ret
  have e1 : (S l).extract n l.length = S (l.drop n) := by rw [S_extract, List.take_length]
  have e2 : (S l).extract 0 n = S (l.take n) := by rw [S_extract, List.drop_zero]
  rw [e1, e2]
  exact ⟨rfl, block_set2 w b _ _ _ _ 72 h, grownBy_drew (grownBy_set2 w b _ _)⟩

/-! ### tagged -/
def tagAhead : List UInt8 → Bool
  | [] => false
  | c :: _ => isTag c
def tagsS : List UInt8 := [98, 111, 36]
theorem tag_index (c : UInt8) : decide (0 ≤ Lib.indexByte tagsS c) = isTag c := by
  revert c; apply all_u8; decide +kernel

theorem indexTag (c : UInt8) (w : World) : Calls Tryd.prog 42 #[.string ⟨#[98, 111, 36]⟩, .int .u8 c.toNat] w fun e w' => e = .returned (.int .i64 (Lib.indexByte tagsS c)) ∧ w = w' := by
  refine (Tryd.strings_IndexByte ⟨#[98, 111, 36]⟩ c.toNat w).mono ?_
  rintro e w' ⟨rfl, rfl⟩
  refine ⟨?_, rfl⟩
  simp [tagsS]

set_option maxHeartbeats 1000000 in
theorem tagged_rd (b : Nat) (l : List UInt8) (at_ : Int) (w : World) (h : RD w b l at_) :
    Calls Tryd.prog 64 #[.pointer (some ⟨b, 0, none⟩)] w fun e w' => e = .returned (.bool (tagAhead l)) ∧ w = w' := by
  have c0 := h.c0
  have htl := S_toList l
  have hsz := S_size l
  cases l with
  | nil =>
    go_enter Tryd.func64, Tryd.ntmps64
    go_wp2
    go_ret
    exact ⟨rfl, rfl⟩
  | cons c r =>
    have hi := tag_index c
    have hget : ∀ (h : 0 < (S (c :: r)).size), (S (c :: r))[0] = c := fun h => S_get (c :: r) 0 h
    generalize hx : Lib.indexByte tagsS c = x at hi
    have HX : Hid _ := hx
    clear hx
    go_enter Tryd.func64, Tryd.ntmps64
    go_wp2_with (go_at_call 42; refine (indexTag c _).mono ?_; rw [HX.out]; rintro e w' ⟨rfl, rfl⟩)
    go_ret
    exact ⟨rfl, rfl⟩
end Go.Proofs.YtnpndkmcgpaibaaDoor
