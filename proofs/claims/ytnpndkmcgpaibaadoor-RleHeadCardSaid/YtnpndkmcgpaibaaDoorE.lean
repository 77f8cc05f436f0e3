/- Walks of the reader's item and of Lex. -/
import Derived.Test.YtnpndkmcgpaibaaDoorD
set_option linter.unusedVariables false
namespace Go.Proofs.YtnpndkmcgpaibaaDoor
open Go.RowKit Go.Sort

def ItemPost (b : Nat) (l : List UInt8) (at_ : Int) (w : World) (e : Ending) (w' : World) : Prop :=
  match item l with
  | .inl er => ∃ t n, e = .returned (.tuple #[.agg #[.int .u8 t, .int .i64 n, .int .i64 at_], .int .i64 er]) ∧ w.grownBy w' (some b)
  | .inr (c, n, m) => e = .returned (.tuple #[.agg #[.int .u8 c.toNat, .int .i64 n, .int .i64 at_], .int .i64 0]) ∧ RD w' b (l.drop m) (at_ + m) ∧ w.grownBy w' (some b)

def ItemPostOf (p : Int ⊕ (UInt8 × Int × Nat)) (b : Nat) (l : List UInt8) (at_ : Int) (w : World) (e : Ending) (w' : World) : Prop :=
  match p with
  | .inl er => ∃ t n, e = .returned (.tuple #[.agg #[.int .u8 t, .int .i64 n, .int .i64 at_], .int .i64 er]) ∧ w.grownBy w' (some b)
  | .inr (c, n, m) => e = .returned (.tuple #[.agg #[.int .u8 c.toNat, .int .i64 n, .int .i64 at_], .int .i64 0]) ∧ RD w' b (l.drop m) (at_ + m) ∧ w.grownBy w' (some b)

theorem prefix0 (N : List UInt8) (w : World) : Calls Tryd.prog 65 #[.string (S N), .string ⟨#[48]⟩] w fun e w' => e = .returned (.bool (Lib.hasPrefix N [48])) ∧ w = w' := by
  refine (Tryd.strings_HasPrefix (S N) ⟨#[48]⟩ w).mono ?_
  rintro e w' ⟨rfl, rfl⟩
  exact ⟨by simp [S], rfl⟩

theorem prefix_head (l : List UInt8) (k : Nat) : Lib.hasPrefix (l.take k) [48] = (decide (0 < k) && decide (l.head? = some 48)) := by
  cases l with
  | nil => cases k <;> simp [Lib.hasPrefix]
  | cons c r =>
    cases k with
    | zero => simp [Lib.hasPrefix]
    | succ k => simp only [Lib.hasPrefix, List.take_succ_cons, List.isPrefixOf, List.head?_cons, Option.some.injEq]; rw [Bool.eq_iff_iff]; simp only [Bool.and_true, beq_iff_eq, Bool.and_eq_true, decide_eq_true_eq]; constructor <;> (intro h; first | exact ⟨by omega, h.symm⟩ | exact h.2.symm)

theorem RD.drew {w : World} {b : Nat} {l : List UInt8} {at_ : Int} (h : RD w b l at_) : RD w.drew b l at_ := h
theorem RD.alloc {w : World} {b : Nat} {l : List UInt8} {at_ : Int} (h : RD w b l at_) (o : Obj) : RD (w.alloc o) b l at_ := (Lib.alloc_old w o b h.lt).trans h

theorem run_digits (b : Nat) (l : List UInt8) (at_ : Int) (w : World) (hl : l.length ≤ 100000) (h : RD w b l at_) :
    Calls Tryd.prog 37 #[.pointer (some ⟨b, 0, none⟩), .string ⟨#[48, 49, 50, 51, 52, 53, 54, 55, 56, 57]⟩] w fun e w' => e = .returned (.int .i64 (runLen isDigit l)) ∧ RD w' b l at_ ∧ Below w.heap.size w w' := by
  have := run_rd b l digitsS at_ w (by omega) (by decide) asc_digits h
  rw [has_digits] at this
  exact this
theorem run_blanks (b : Nat) (l : List UInt8) (at_ : Int) (w : World) (hl : l.length ≤ 100000) (h : RD w b l at_) :
    Calls Tryd.prog 37 #[.pointer (some ⟨b, 0, none⟩), .string ⟨#[32, 9, 10, 13]⟩] w fun e w' => e = .returned (.int .i64 (runLen isBlank l)) ∧ RD w' b l at_ ∧ Below w.heap.size w w' := by
  have := run_rd b l blanksS at_ w (by omega) (by decide) asc_blanks h
  rw [has_blanks] at this
  exact this
/-- x's block -/
def XB (w : World) (g : Nat) (t : Int) (n at_ : Int) : Prop := w.heap[g]? = some (.cells #[.int .u8 t, .int .i64 n, .int .i64 at_] 37 (0, 0))
theorem XB.c0 {w : World} {g : Nat} {t n at_ : Int} (h : XB w g t n at_) : w.cell? ⟨g, 0, none⟩ = some (.int .u8 t) := by rw [Lib.cell_of_heap h]; rfl
theorem XB.c1 {w : World} {g : Nat} {t n at_ : Int} (h : XB w g t n at_) : w.cell? ⟨g, 1, none⟩ = some (.int .i64 n) := by rw [Lib.cell_of_heap h]; rfl
theorem XB.c2 {w : World} {g : Nat} {t n at_ : Int} (h : XB w g t n at_) : w.cell? ⟨g, 2, none⟩ = some (.int .i64 at_) := by rw [Lib.cell_of_heap h]; rfl
theorem XB.f {w : World} {g : Nat} {t n at_ : Int} (h : XB w g t n at_) (o : Nat) : w.frozen? ⟨g, o, none⟩ = false := Lib.frozen_of_heap h o
theorem XB.lt {w : World} {g : Nat} {t n at_ : Int} (h : XB w g t n at_) : g < w.heap.size := (Array.getElem?_eq_some_iff.1 h).1
theorem XB.below {w w' : World} {g B : Nat} {t n at_ : Int} (h : XB w g t n at_) (hb : Below B w w') (hB : g < B) : XB w' g t n at_ := (hb.block g hB).trans h
theorem XB.grown {w w' : World} {g b : Nat} {t n at_ : Int} (h : XB w g t n at_) (hb : w.grownBy w' (some b)) (hB : g ≠ b) : XB w' g t n at_ := (hb.block g h.lt (fun e => hB (Option.some.inj e))).trans h
theorem grownBy_trans {a b c : World} {r : Option Nat} (h : a.grownBy b r) (k : b.grownBy c r) : a.grownBy c r :=
  ⟨k.os.trans h.os, k.tape.trans h.tape, k.output.trans h.output, Nat.le_trans h.size k.size, fun i hi hn => (k.block i (Nat.lt_of_lt_of_le hi h.size) hn).trans (h.block i hi hn)⟩
theorem grownBy_of_below {a b : World} {r : Option Nat} (h : Below a.heap.size a b) : a.grownBy b r := ⟨h.os, h.tape, h.output, h.size, fun k hk _ => h.block k hk⟩
theorem grownBy_refl (a : World) (r : Option Nat) : a.grownBy a r := ⟨rfl, rfl, rfl, Nat.le_refl _, fun _ _ _ => rfl⟩
theorem grownBy_new {a b : World} {r : Option Nat} (h : a.grownBy b r) {g : Nat} (hg : a.heap.size ≤ g) (p : Addr) (hp : p.block = g) (v : Value) : a.grownBy (b.setCell p v) r :=
  ⟨h.os, h.tape, h.output, by have := h.size; simp [World.setCell]; omega, fun k hk hn => by rw [Below.heap_setCell _ _ _ _ (by omega)]; exact h.block k hk hn⟩

theorem RD.set {w : World} {b : Nat} {l : List UInt8} {at_ : Int} (h : RD w b l at_) {p : Addr} (hp : b ≠ p.block) (v : Value) : RD (w.setCell p v) b l at_ := (Below.heap_setCell w p v b hp).trans h
theorem XB.set {w : World} {g : Nat} {t n at_ : Int} (h : XB w g t n at_) {p : Addr} (hp : g ≠ p.block) (v : Value) : XB (w.setCell p v) g t n at_ := (Below.heap_setCell w p v g hp).trans h
theorem XB.put1 {w : World} {g : Nat} {t n at_ : Int} (h : XB w g t n at_) (n' : Int) : XB (w.setCell ⟨g, 1, none⟩ (.int .i64 n')) g t n' at_ := by
  have h' : w.heap[g]? = some (.cells #[.int .u8 t, .int .i64 n, .int .i64 at_] 37 (0, 0)) := h
  show (w.setCell _ _).heap[g]? = _
  simp [World.setCell, Array.getElem?_modify, h']
theorem skip_one (b : Nat) (c : UInt8) (r : List UInt8) (at_ : Int) (w : World) (hl : r.length < 100000) (h0 : 0 ≤ at_) (h1 : at_ ≤ 100000) (h : RD w b (c :: r) at_) :
    Calls Tryd.prog 36 #[.pointer (some ⟨b, 0, none⟩), .int .i64 1] w fun e w' => e = .returned (.string (S [c])) ∧ RD w' b r (at_ + 1) ∧ w.grownBy w' (some b) := by
  have := skip_rd b (c :: r) at_ 1 w (by simp; omega) (by simp) h0 h1 h
  exact this
theorem one_get (c : UInt8) (h : 0 < (S [c]).size) : (S [c])[0] = c := S_get [c] 0 h
theorem item_len {l : List UInt8} {k : Nat} {c : UInt8} {r : List UInt8} (h : l.drop k = c :: r) : k + 1 + r.length = l.length := by
  have := congrArg List.length h
  simp at this
  omega
theorem item_rest {l : List UInt8} {k : Nat} {c : UInt8} {r : List UInt8} (h : l.drop k = c :: r) : l.drop (k + 1) = r := by
  have := congrArg (List.drop 1) h
  simpa using this

set_option maxHeartbeats 1000000 in
theorem item_walk (b : Nat) (l : List UInt8) (at_ : Int) (w : World) (h0 : 0 ≤ at_) (h1 : at_ + l.length ≤ 100000) (h : RD w b l at_) :
    Calls Tryd.prog 38 #[.pointer (some ⟨b, 0, none⟩)] w (ItemPost b l at_ w) := by
  have hle := runLen_le isDigit l
  have c0 := h.c0
  have c1 := h.c1
  have f0 := h.f0 0
  have f1 := h.f0 1
  have hlt := h.lt
  go_enter Tryd.func38, Tryd.ntmps38
  go_wp2
  have hx : XB (w.alloc (Obj.cells #[Value.int IntKind.u8 0, Value.int IntKind.i64 1, Value.int IntKind.i64 at_] 37)) w.heap.size 0 1 at_ := heap_alloc_new w _
  have hr := h.alloc (Obj.cells #[Value.int IntKind.u8 0, Value.int IntKind.i64 1, Value.int IntKind.i64 at_] 37)
  have hg : w.grownBy (w.alloc (Obj.cells #[Value.int IntKind.u8 0, Value.int IntKind.i64 1, Value.int IntKind.i64 at_] 37)) (some b) := World.grownBy_alloc _ _ _
  generalize w.alloc (Obj.cells #[Value.int IntKind.u8 0, Value.int IntKind.i64 1, Value.int IntKind.i64 at_] 37) = W at *
  clear c0 c1 f0 f1 h
  go_region_with (first | (go_at_call 37; refine (run_digits b l at_ _ (by omega) (RD.drew hr)).mono ?_; rintro e w1 ⟨rfl, hr1, hb1⟩) | (go_at_call 36; refine (skip_rd b l at_ _ _ (by omega) hle h0 (by omega) (by assumption)).mono ?_; rintro e w2 ⟨rfl, hr2, hg2⟩))
  have hx1 := XB.below (w := W.drew) hx hb1 hx.lt
  have hx2 := hx1.grown hg2 (by omega)
  have hG : w.grownBy w2 (some b) := grownBy_trans (grownBy_trans (grownBy_drew hg) (grownBy_of_below hb1)) hg2
  have hsz := hG.size
  clear hx hr hg hr1 hb1 hx1 hg2
  have hIt : Hid (∀ p, item l = p → ItemPost b l at_ w = ItemPostOf p b l at_ w) := fun p h => by unfold ItemPost ItemPostOf; rw [h]
  have hlen : (l.take (runLen isDigit l)).length = runLen isDigit l := by rw [List.length_take]; omega
  have hI : Hid (item l = match l.drop (runLen isDigit l) with
    | [] => .inl 30
    | c :: _ => if isTag c = false then .inl 30 else if runLen isDigit l = 0 then .inr (c, 1, 1) else if l.head? = some 48 then .inl 30
      else if (cparse (l.take (runLen isDigit l))).2 ≠ 0 ∨ maxCoord < (cparse (l.take (runLen isDigit l))).1 then .inl 2 else .inr (c, (cparse (l.take (runLen isDigit l))).1, runLen isDigit l + 1)) := rfl
  clear hle
  generalize hR : l.drop (runLen isDigit l) = R at *
  generalize hN : l.take (runLen isDigit l) = N at *
  have hNh : Hid (Lib.hasPrefix N [48] = (decide (0 < runLen isDigit l) && decide (l.head? = some 48))) := by
    rw [← hN]; exact prefix_head l _
  generalize hk : runLen isDigit l = k at *
  have HR : Hid _ := hR
  have HL : Hid _ := hlen
  clear hR hN hk hlen
  have htN := S_toList N
  have c0 := hx2.c0
  have c1 := hx2.c1
  have c2 := hx2.c2
  have f0 := hx2.f 0
  have f1 := hx2.f 1
  have f2 := hx2.f 2
  have fin30 : item l = .inl 30 → ∀ e w', (e = .returned (.tuple #[.agg #[.int .u8 0, .int .i64 1, .int .i64 at_], .int .i64 30]) ∧ w.grownBy w' (some b)) → ItemPost b l at_ w e w' := by
    intro h e w' h2
    rw [hIt.out _ h]
    exact ⟨0, 1, h2⟩
  cases ht : tagAhead R with
  | false =>
    have hi : Hid (item l = .inl 30) := by
      rw [hI.out]
      cases R with
      | nil => rfl
      | cons c r => simp only [tagAhead] at ht; exact if_pos ht
    go_wp2_with (first | (go_at_call 64; refine (tagged_rd b R _ _ hr2).mono ?_; rintro e w' ⟨rfl, rfl⟩) | (go_at_call 65; refine (prefix0 N _).mono ?_; rintro e w' ⟨rfl, rfl⟩))
    refine bodyPost_ret (v := .tuple #[.agg #[.int .u8 0, .int .i64 1, .int .i64 at_], .int .i64 30]) ?_ rfl (fin30 hi.out _ _ ⟨rfl, ?_⟩)
    · simp [results, Tryd.results38, go_sem, c0, c1, c2]
    · exact grownBy_new (grownBy_new (grownBy_new hG (Nat.le_refl _) ⟨w.heap.size, 0, none⟩ rfl _) (Nat.le_refl _) ⟨w.heap.size, 1, none⟩ rfl _) (Nat.le_refl _) ⟨w.heap.size, 2, none⟩ rfl _
  | true =>
    obtain ⟨c, r, rfl⟩ : ∃ c r, R = c :: r := by
      cases R with
      | nil => cases ht
      | cons c r => exact ⟨c, r, rfl⟩
    have htc : isTag c = true := ht
    have htC : Hid _ := htc
    clear htc
    by_cases hk0 : k = 0
    · subst hk0
      have hi : Hid (item l = .inr (c, 1, 1)) := by
        rw [hI.out]
        exact (if_neg (by rw [htC.out]; simp)).trans (if_pos rfl)
      have hN0 : N = [] := List.eq_nil_of_length_eq_zero HL.out
      subst hN0
      have hnp : Lib.hasPrefix [] [48] = false := rfl
      have hl2 := HR.out
      rw [List.drop_zero] at hl2
      have Hl2 : Hid _ := hl2
      clear hl2
      go_wp2_with (first | (go_at_call 64; refine (tagged_rd b (c :: r) _ _ hr2).mono ?_; rintro e w' ⟨rfl, rfl⟩) | (go_at_call 65; refine (prefix0 [] _).mono ?_; rintro e w' ⟨rfl, rfl⟩))
      have hil := item_len HR.out
      refine (skip_one b c r _ _ (by omega) (by omega) (by omega) hr2).mono ?_
      rintro e w3 ⟨rfl, hr3, hg3⟩
      have hx3 := hx2.grown hg3 (by omega)
      have d0 := hx3.c0
      have d1 := hx3.c1
      have d2 := hx3.c2
      have e0 := hx3.f 0
      have e1 := hx3.f 1
      have e2 := hx3.f 2
      have hs1 := S_size [c]
      have hg1 := one_get c
      go_wp2
      refine bodyPost_ret (v := .tuple #[.agg #[.int .u8 c.toNat, .int .i64 1, .int .i64 at_], .int .i64 0]) ?_ rfl ?_
      · simp [results, Tryd.results38, go_sem, d0, d1, d2]
      · rw [hIt.out _ hi.out]
        refine ⟨rfl, ?_, ?_⟩
        · rw [item_rest HR.out, show at_ + ((1 : Nat) : Int) = at_ + ((0 : Nat) : Int) + 1 from by omega]
          repeat (first | exact hr3 | refine RD.set ?_ (by simp; omega) _)
        · repeat (first | exact grownBy_trans hG hg3 | refine grownBy_new ?_ (Nat.le_refl _) _ rfl _)
    · have hnum : decide (0 < k) = true := by simp; omega
      have hNe : N.isEmpty = false := by
        cases N with
        | nil => exact absurd HL.out (by simp; omega)
        | cons => rfl
      have hil := item_len HR.out
      by_cases hz : l.head? = some 48
      · have hi : Hid (item l = .inl 30) := by
          rw [hI.out]
          exact (if_neg (by rw [htC.out]; simp)).trans ((if_neg hk0).trans (if_pos hz))
        have hnp : Lib.hasPrefix N [48] = true := by rw [hNh.out, hnum]; simpa using hz
        clear hz hnum
        go_wp2_with (first | (go_at_call 64; refine (tagged_rd b (c :: r) _ _ hr2).mono ?_; rintro e w' ⟨rfl, rfl⟩) | (go_at_call 65; refine (prefix0 N _).mono ?_; rintro e w' ⟨rfl, rfl⟩))
        refine bodyPost_ret (v := .tuple #[.agg #[.int .u8 0, .int .i64 1, .int .i64 at_], .int .i64 30]) ?_ rfl (fin30 hi.out _ _ ⟨rfl, ?_⟩)
        · simp [results, Tryd.results38, go_sem, c0, c1, c2]
        · repeat (first | exact hG | refine grownBy_new ?_ (Nat.le_refl _) _ rfl _)
      · have hnp : Lib.hasPrefix N [48] = false := by rw [hNh.out, hnum]; simpa using hz
        have Hz : Hid _ := hz
        clear hz hnum
        go_wp2_with (first | (go_at_call 64; refine (tagged_rd b (c :: r) _ _ hr2).mono ?_; rintro e w' ⟨rfl, rfl⟩) | (go_at_call 65; refine (prefix0 N _).mono ?_; rintro e w' ⟨rfl, rfl⟩))
        refine (parse_any N _ (by rw [HL.out]; omega)).mono ?_
        rintro e w3 ⟨rfl, hb3⟩
        have hx3 := hx2.below hb3 hx2.lt
        have hr3 := hr2.below hb3 hr2.lt
        have hG3 : w.grownBy w3 (some b) := grownBy_trans hG (grownBy_of_below hb3)
        clear hb3 hr2 hx2 hG c0 c1 c2 f0 f1 f2
        obtain ⟨pn, hpn⟩ : ∃ pn, (cparse N).1 = pn := ⟨_, rfl⟩
        obtain ⟨pe, hpe⟩ : ∃ pe, (cparse N).2 = pe := ⟨_, rfl⟩
        rw [hpn, hpe] at hI ⊢
        have d0 := hx3.c0
        have d1 := hx3.c1
        have d2 := hx3.c2
        have e0 := hx3.f 0
        have e1 := hx3.f 1
        have e2 := hx3.f 2
        by_cases hpe0 : pe = 0
        · by_cases hpm : 1099511627776 < pn
          · have hi : Hid (item l = .inl 2) := by
              rw [hI.out]
              exact (if_neg (by rw [htC.out]; simp)).trans ((if_neg hk0).trans ((if_neg Hz.out).trans (if_pos (.inr hpm))))
            subst hpe0
            go_wp2
            refine bodyPost_ret (v := .tuple #[.agg #[.int .u8 0, .int .i64 pn, .int .i64 at_], .int .i64 2]) ?_ rfl ?_
            · simp [results, Tryd.results38, go_sem, d0, d1, d2]
            · rw [hIt.out _ hi.out]
              refine ⟨_, _, rfl, ?_⟩
              repeat (first | exact hG3 | refine grownBy_new ?_ (Nat.le_refl _) _ rfl _)
          · have hi : Hid (item l = .inr (c, pn, k + 1)) := by
              rw [hI.out]
              exact (if_neg (by rw [htC.out]; simp)).trans ((if_neg hk0).trans ((if_neg Hz.out).trans (if_neg (by rintro (h | h); exact h hpe0; exact hpm h))))
            subst hpe0
            go_wp2_with fail
            refine (skip_one b c r _ _ (by omega) (by omega) (by omega) (hr3.set (by simp; omega) _)).mono ?_
            rintro e w4 ⟨rfl, hr4, hg4⟩
            have hx4 : XB w4 w.heap.size 0 pn at_ := XB.grown (XB.put1 hx3 pn) hg4 (by omega)
            have hG4 : w.grownBy w4 (some b) := grownBy_trans (grownBy_new hG3 (Nat.le_refl _) ⟨w.heap.size, 1, none⟩ rfl (.int .i64 pn)) hg4
            clear hx3 d0 d1 d2 e0 e1 e2 hr3 hG3 hg4
            have d0 := hx4.c0
            have d1 := hx4.c1
            have d2 := hx4.c2
            have e0 := hx4.f 0
            have e1 := hx4.f 1
            have e2 := hx4.f 2
            have hs1 := S_size [c]
            have hg1 := one_get c
            go_wp2
            refine bodyPost_ret (v := .tuple #[.agg #[.int .u8 c.toNat, .int .i64 pn, .int .i64 at_], .int .i64 0]) ?_ rfl ?_
            · simp [results, Tryd.results38, go_sem, d0, d1, d2]
            · rw [hIt.out _ hi.out]
              refine ⟨rfl, ?_, ?_⟩
              · rw [item_rest HR.out, show at_ + ((k + 1 : Nat) : Int) = at_ + (k : Int) + 1 from by omega]
                repeat (first | exact hr4 | refine RD.set ?_ (by simp; omega) _)
              · repeat (first | exact hG4 | refine grownBy_new ?_ (Nat.le_refl _) _ rfl _)
        · have hi : Hid (item l = .inl 2) := by
            rw [hI.out]
            exact (if_neg (by rw [htC.out]; simp)).trans ((if_neg hk0).trans ((if_neg Hz.out).trans (if_pos (.inl hpe0))))
          have hpb : (pe == 0) = false := by rw [beq_eq_false_iff_ne]; exact hpe0
          have hpb2 : (pe != 0) = true := by rw [bne_iff_ne]; exact hpe0
          clear hpe0
          go_wp2
          refine bodyPost_ret (v := .tuple #[.agg #[.int .u8 0, .int .i64 pn, .int .i64 at_], .int .i64 2]) ?_ rfl ?_
          · simp [results, Tryd.results38, go_sem, d0, d1, d2]
          · rw [hIt.out _ hi.out]
            refine ⟨_, _, rfl, ?_⟩
            repeat (first | exact hG3 | refine grownBy_new ?_ (Nat.le_refl _) _ rfl _)
end Go.Proofs.YtnpndkmcgpaibaaDoor
