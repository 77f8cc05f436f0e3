/- Walk of Lex. -/
import Derived.Test.YtnpndkmcgpaibaaDoorE
set_option linter.unusedVariables false
namespace Go.Proofs.YtnpndkmcgpaibaaDoor
open Go.RowKit Go.Sort

theorem infoItem : (Tryd.prog.info? 37).map (fun i => (i.zero, i.size, i.bytes)) = some (some (.agg #[.int .u8 0, .int .i64 0, .int .i64 0]), 3, 24) := by kernel_rfl
def itCell (x : It) : List Value := [.int .u8 x.tag.toNat, .int .i64 x.n, .int .i64 x.at_]
def itCells (l : List It) : List Value := l.flatMap itCell
theorem itCells_length (l : List It) : (itCells l).length = l.length * 3 := by
  induction l with
  | nil => rfl
  | cons x r ih => simp only [itCells, List.flatMap_cons, List.length_append] at *; rw [ih]; simp [itCell]; omega
theorem itCells_append (a b : List It) : itCells (a ++ b) = itCells a ++ itCells b := by simp [itCells]

theorem item_err {l : List UInt8} {er : Int} (h : item l = .inl er) : (er == 0) = false ∧ (er != 0) = true := by
  unfold item at h
  have : er = 30 ∨ er = 2 := by
    simp only at h
    split at h
    · exact .inl (Sum.inl.inj h).symm
    · repeat' split at h
      all_goals first | exact .inl (Sum.inl.inj h).symm | exact .inr (Sum.inl.inj h).symm | cases h
  rcases this with rfl | rfl <;> exact ⟨rfl, rfl⟩

theorem item_more {l : List UInt8} {c : UInt8} {n : Int} {m : Nat} (h : item l = .inr (c, n, m)) : 1 ≤ m ∧ m ≤ l.length := by
  unfold item at h
  simp only at h
  split at h
  · cases h
  · rename_i d r hd
    have hil := item_len hd
    split at h
    · cases h
    · split at h
      · cases h; exact ⟨by omega, by omega⟩
      · split at h
        · cases h
        · split at h
          · cases h
          · cases h; exact ⟨by omega, by omega⟩

theorem owns_drewN {w : World} {base sz : Nat} {E : TypeId} {v : Value} {n : Nat} {xs : List Value} (h : w.ownsRow base E sz v n xs) (k : Nat) : (w.drewN k).ownsRow base E sz v n xs := h
theorem owns_mono {w : World} {base base' sz : Nat} {E : TypeId} {v : Value} {n : Nat} {xs : List Value} (h : w.ownsRow base E sz v n xs) (hb : base' ≤ base) : w.ownsRow base' E sz v n xs := by
  refine ⟨h.1, ?_⟩
  rcases h.2 with h2 | ⟨g, cap, cur, hv, hg, r⟩
  · exact .inl h2
  · exact .inr ⟨g, cap, cur, hv, Nat.le_trans hb hg, r⟩
theorem new_cells (w : World) (cs : List Value) (E : TypeId) (j : Nat) (u : Value) (h : cs[j]? = some u) : (w.alloc (.cells cs.toArray E)).cell? ((⟨w.heap.size, 0, none⟩ : Addr).add j) = some u := by
  have hh := heap_alloc_new w (.cells cs.toArray E)
  unfold Addr.add
  split
  · rename_i hj; subst hj; rw [Lib.cell_of_heap hh]; simpa using h
  · rw [Nat.zero_add, Lib.cell_of_heap hh]; simpa using h
theorem below_own {a w w' : World} {v : Value} {B base sz : Nat} {E : TypeId} {n : Nat} {xs : List Value} (h : Below B a w) (hg : w.grownBy w' v.ownBlock) (ho : w.ownsRow base E sz v n xs) (hb : B ≤ base) (hs : B ≤ w.heap.size) : Below B a w' :=
  h.grown hg hs (fun k hk => Nat.le_trans hb (ho.lt k hk).1)
theorem RD.own {w w' : World} {b : Nat} {l : List UInt8} {at_ : Int} {v : Value} {base sz : Nat} {E : TypeId} {n : Nat} {xs : List Value} (h : RD w b l at_) (hg : w.grownBy w' v.ownBlock) (ho : w.ownsRow base E sz v n xs) (hb : b < base) : RD w' b l at_ :=
  (hg.block b h.lt (fun e => by have := (ho.lt b e.symm).1; omega)).trans h

def lexStep (f : Nat) (l1 : List UInt8) (at1 : Int) (acc : List It) : List It × Int × Int :=
  match l1 with
  | [] => ([], 31, at1)
  | c :: r =>
    if c = 33 then (acc, 0, at1)
    else match item (c :: r) with
      | .inl e => ([], e, at1)
      | .inr (t, n, m) => lexLoop f ((c :: r).drop m) (at1 + m) (acc ++ [⟨t, n, at1⟩])
theorem lexLoop_succ (f : Nat) (l : List UInt8) (at_ : Int) (acc : List It) : lexLoop (f + 1) l at_ acc = lexStep f (l.drop (runLen isBlank l)) (at_ + runLen isBlank l) acc := by
  rw [lexLoop]
  unfold lexStep
  cases l.drop (runLen isBlank l) with
  | nil => rfl
  | cons c r => rfl

def LexPost (l : List UInt8) (w : World) (e : Ending) (w' : World) : Prop :=
  ∃ v, e = .returned (.tuple #[v, .int .i64 (lex l).2.1, .int .i64 (lex l).2.2]) ∧ w'.ownsRow w.heap.size 37 3 v (lex l).1.length (itCells (lex l).1) ∧ Below w.heap.size w w'

theorem lexPost_mk {l : List UInt8} {w w' : World} {v : Value} {its : List It} {a b : Int} (h : lex l = (its, a, b)) (ho : w'.ownsRow w.heap.size 37 3 v its.length (itCells its)) (hb : Below w.heap.size w w') :
    LexPost l w (.returned (.tuple #[v, .int .i64 a, .int .i64 b])) w' := by
  refine ⟨v, ?_, ?_, hb⟩
  · rw [h]
  · rw [h]; exact ho

theorem owns_kept {w w' : World} {base b : Nat} {v : Value} {n : Nat} {xs : List Value} (h : w.ownsRow base 37 3 v n xs) (hg : w.grownBy w' (some b)) (hb : b < base) : w'.ownsRow base 37 3 v n xs := by
  refine h.kept hg ?_
  cases hv : v.ownBlock with
  | none => exact .inl rfl
  | some k =>
    have := h.lt k hv
    exact .inr (fun e => by cases e; omega)
theorem below_grown1 {a w w' : World} {b B : Nat} (h : Below B a w) (hg : w.grownBy w' (some b)) (hB : B ≤ b) (hs : B ≤ w.heap.size) : Below B a w' :=
  h.grown hg hs (fun k hk => by cases hk; exact hB)

set_option maxHeartbeats 4000000 in
theorem lex_walk (l : List UInt8) (w : World) (hl : l.length ≤ 9223372036854775807) :
    Calls Tryd.prog 18 #[.string (S l)] w (LexPost l w) := by
  have hsz := S_size l
  by_cases hbig : 20000 < l.length
  · have hx : Hid (lex l = ([], 3, 0)) := if_pos hbig
    go_enter Tryd.func18, Tryd.ntmps18
    go_wp2
    go_ret3
    exact lexPost_mk hx.out (World.ownsRow_nil _ _ _ _) (Below.refl _ _)
  · have hx : Hid (lex l = lexLoop (l.length + 1) l 0 []) := if_neg hbig
    have hl2 : l.length ≤ 20000 := by omega
    go_enter Tryd.func18, Tryd.ntmps18
    go_wp2
    go_loopg [2] (l.length + 1) (fun f v wr => ∃ (l' : List UInt8) (at_ : Int) (acc : List It), l'.length < f ∧ 0 ≤ at_ ∧ at_ + l'.length = l.length ∧ acc.length + l'.length ≤ l.length ∧ RD wr w.heap.size l' at_ ∧ wr.ownsRow (w.heap.size + 1) 37 3 v acc.length (itCells acc) ∧ Below w.heap.size w wr ∧ lexLoop f l' at_ acc = lex l)
    case atStart =>
      refine ⟨l, 0, [], by omega, by omega, by omega, by simp, heap_alloc_new w _, World.ownsRow_nil _ _ _ _, (Below.refl _ w).alloc (Nat.le_refl _) _, hx.out.symm⟩
    case round =>
      obtain ⟨l', at_, acc, hf, h0, h1, h2, hr, hown, hbw, hlx⟩ := hrel
      have HX : Hid _ := hlx
      have HF : Hid (l'.length < gk) := hf
      clear hlx hx
      have hle := runLen_le isBlank l'
      go_wp2_with fail
      go_region_with (first | (go_at_call 37; refine (run_blanks w.heap.size l' at_ _ (by omega) (RD.drew hr)).mono ?_; rintro e w1 ⟨rfl, hr1, hb1⟩) | (go_at_call 36; refine (skip_rd w.heap.size l' at_ _ _ (by omega) hle h0 (by omega) (by assumption)).mono ?_; rintro e w2 ⟨rfl, hr2, hg2⟩))
      have hs0 := hbw.size
      have hlt := hr.lt
      have hown1 := owns_kept hown (grownBy_of_below (r := some w.heap.size) (show Below wr.heap.size wr w1 from ⟨hb1.os, hb1.tape, hb1.output, hb1.size, hb1.block⟩)) (Nat.lt_succ_self _)
      have hown2 := owns_kept hown1 hg2 (Nat.lt_succ_self _)
      have hbw1 : Below w.heap.size w w1 := hbw.trans ⟨hb1.os, hb1.tape, hb1.output, hb1.size, fun k hk => hb1.block k (by simp; omega)⟩
      have hbw2 : Below w.heap.size w w2 := below_grown1 hbw1 hg2 (Nat.le_refl _) hbw1.size
      have hsz2 := hr2.lt
      clear hown hown1 hr hr1 hb1 hg2 hbw hbw1 hlt hs0
      obtain ⟨f, rfl⟩ : ∃ f, gk = f + 1 := ⟨gk - 1, by have := HF.out; omega⟩
      have hxs := HX.out
      rw [lexLoop_succ] at hxs
      have hll : (l'.drop (runLen isBlank l')).length + runLen isBlank l' = l'.length := by rw [List.length_drop]; omega
      generalize runLen isBlank l' = k at *
      generalize l'.drop k = l1 at *
      have HX2 : Hid _ := hxs
      have HF2 : l1.length < f + 1 := by have := HF.out; omega
      clear hxs HX HF
      generalize hat1 : at_ + (k : Int) = at1 at *
      have h0' : 0 ≤ at1 := by omega
      have h1' : at1 + l1.length = l.length := by omega
      have h2' : acc.length + l1.length ≤ l.length := by omega
      clear hle hll hat1 h0 h1 h2
      have c0 := hr2.c0
      have c1 := hr2.c1
      have htl := S_toList l1
      have hsz1 := S_size l1
      cases l1 with
      | nil =>
        go_wp2_with fail
        go_quiet (fail)
        go_wp2
        go_ret3
        exact lexPost_mk HX2.out.symm (World.ownsRow_nil _ _ _ _) (below_drewN hbw2 _)
      | cons c r =>
        have hget : ∀ (h : 0 < (S (c :: r)).size), (S (c :: r))[0] = c := fun h => S_get (c :: r) 0 h
        by_cases hc : c = 33
        · subst hc
          go_wp2_with fail
          go_quiet (fail)
          go_wp2
          go_ret3
          exact lexPost_mk HX2.out.symm (owns_drewN (owns_mono hown2 (Nat.le_succ _)) _) (below_drewN hbw2 _)
        · have hcb : ((c.toNat : Int) == 33) = false := by
            rw [beq_eq_false_iff_ne]; intro h; exact hc (UInt8.toNat_inj.1 (by show c.toNat = 33; omega))
          have hst : Hid (lexStep f (c :: r) at1 acc = match item (c :: r) with
            | .inl e => ([], e, at1)
            | .inr (t, n, m) => lexLoop f ((c :: r).drop m) (at1 + m) (acc ++ [⟨t, n, at1⟩])) := if_neg hc
          clear hc
          go_wp2_with fail
          refine (item_walk w.heap.size (c :: r) at1 _ h0' (by omega) hr2).mono ?_
          intro e w3 hpost
          unfold ItemPost at hpost
          cases hit : item (c :: r) with
          | inl er =>
            rw [hit] at hpost
            obtain ⟨t, n, rfl, hg3⟩ := hpost
            obtain ⟨he1, he2⟩ := item_err hit
            have hfin : Hid (lex l = ([], er, at1)) := by rw [← HX2.out, hst.out, hit]; rfl
            have hbw3 : Below w.heap.size w w3 := below_grown1 hbw2 hg3 (Nat.le_refl _) hbw2.size
            clear hit hst HX2
            go_wp2_with fail
            go_quiet (fail)
            go_wp2
            go_ret3
            exact lexPost_mk hfin.out (World.ownsRow_nil _ _ _ _) (below_drewN (hbw3.alloc hbw3.size _) _)
          | inr p =>
            obtain ⟨t, n, m⟩ := p
            rw [hit] at hpost
            obtain ⟨rfl, hr3, hg3⟩ := hpost
            have hmore := item_more hit
            have hfin : Hid (lexLoop f ((c :: r).drop m) (at1 + m) (acc ++ [⟨t, n, at1⟩]) = lex l) := by rw [← HX2.out, hst.out, hit]; rfl
            have hbw3 : Below w.heap.size w w3 := below_grown1 hbw2 hg3 (Nat.le_refl _) hbw2.size
            have hown3 := owns_kept hown2 hg3 (Nat.lt_succ_self _)
            clear hit hst HX2 hg3 hown2 hbw2 hr2 c0 c1 htl hget
            have hdl : ((c :: r).drop m).length + m = (c :: r).length := by rw [List.length_drop]; omega
            have hs3 := hr3.lt
            obtain ⟨i0, hi, hz0, hz1, hz2⟩ := info_parts infoItem
            go_wp2_with (at_builtin; refine wpList_append_own _ rfl _ _ 22 rfl (w.heap.size + 1) 37 i0 (.agg #[.int .u8 0, .int .i64 0, .int .i64 0]) 3 24 Tryd.underlying22 hi hz0 hz1 hz2 rfl (by decide) _ _ _ rfl ((hown3.alloc _).alloc _) ⟨w3.heap.size + 1, 0, none⟩ 1 1 (itCell ⟨t, n, at1⟩) rfl rfl ?c1 ?c2 ?c3 ?c4 ?c5 ?_)
            case c1 =>
              intro j u hj
              have := new_cells (w3.alloc (Obj.cells #[Value.int IntKind.u8 t.toNat, Value.int IntKind.i64 n, Value.int IntKind.i64 at1] 37)) (itCell ⟨t, n, at1⟩) 37 j u hj
              rw [show (w3.alloc (Obj.cells #[Value.int IntKind.u8 t.toNat, Value.int IntKind.i64 n, Value.int IntKind.i64 at1] 37)).heap.size = w3.heap.size + 1 from by simp] at this
              exact this
            case c2 => intro u hu; simp [itCell] at hu; rcases hu with rfl | rfl | rfl <;> rfl
            case c3 => unfold maxLen; omega
            case c4 => omega
            case c5 => simp; omega
            intro v' w4 hown' hgrow _
            have hown4 := (hown3.alloc (Obj.cells #[Value.int IntKind.u8 t.toNat, Value.int IntKind.i64 n, Value.int IntKind.i64 at1] 37)).alloc (Obj.cells #[Value.int IntKind.u8 t.toNat, Value.int IntKind.i64 n, Value.int IntKind.i64 at1] 37)
            have hbw4 : Below w.heap.size w w4 := below_own ((hbw3.alloc (by omega) _).alloc (by simp; omega) _) hgrow hown4 (Nat.le_succ _) (by simp; omega)
            have hr4 : RD w4 w.heap.size ((c :: r).drop m) (at1 + m) := RD.own ((hr3.alloc _).alloc _) hgrow hown4 (Nat.lt_succ_self _)
            have hown5 : w4.ownsRow (w.heap.size + 1) 37 3 v' (acc ++ [It.mk t n at1]).length (itCells (acc ++ [It.mk t n at1])) := by
              rw [itCells_append]; simpa [itCells] using hown'
            clear hown' hgrow hown4 hown3 hbw3 hr3
            go_wp2
            go_roundg f
            case measure => omega
            case rel =>
              refine ⟨(c :: r).drop m, at1 + m, acc ++ [⟨t, n, at1⟩], by omega, by omega, by omega, ?_, hr4, hown5, hbw4, hfin.out⟩
              simp only [List.length_append, List.length_cons, List.length_nil] at *
              omega
end Go.Proofs.YtnpndkmcgpaibaaDoor
