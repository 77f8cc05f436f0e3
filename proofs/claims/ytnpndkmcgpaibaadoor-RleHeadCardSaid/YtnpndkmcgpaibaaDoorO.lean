/- The walk of chapter 4's law TokenBack. -/
import Derived.Test.YtnpndkmcgpaibaaDoorN
import Derived.Test.YtnpndkmcgpaibaaDoorQ
set_option linter.unusedVariables false
namespace Go.Proofs.YtnpndkmcgpaibaaDoor
open Go.RowKit Go.Sort

/-- the blanks ahead of item i -/
def blankOf (bl : List Int) (i : Nat) : List UInt8 :=
  match bl[i]? with
  | none => []
  | some x => if pickI x 4 = 0 then [] else if pickI x 4 = 1 then [32] else if pickI x 4 = 2 then [10] else [9, 13, 32]
def withB (bl : List Int) (its : List It) : List (List UInt8 × It) := its.zipIdx.map fun p => (blankOf bl p.2, p.1)
theorem blankOf_blank (bl : List Int) (i : Nat) : (blankOf bl i).all isBlank = true := by
  unfold blankOf
  split
  · rfl
  · split
    · rfl
    · split
      · rfl
      · split <;> rfl
theorem blankOf_len (bl : List Int) (i : Nat) : (blankOf bl i).length ≤ 3 := by
  unfold blankOf
  split
  · simp
  · split
    · simp
    · split
      · simp
      · split <;> simp
theorem withB_length (bl : List Int) (its : List It) : (withB bl its).length = its.length := by simp [withB]
theorem withB_get (bl : List Int) (its : List It) (k : Nat) (h : k < its.length) (h2 : k < (withB bl its).length) : (withB bl its)[k] = (blankOf bl k, its[k]) := by simp [withB]
theorem withB_valid {bl : List Int} {its : List It} (h : ∀ x ∈ its, valid x) : bvalid (withB bl its) := by
  intro p hp
  obtain ⟨q, hq, rfl⟩ := List.mem_map.1 hp
  refine ⟨blankOf_blank _ _, h _ ?_⟩
  obtain ⟨i, hi⟩ := List.mem_iff_getElem?.1 hq
  rw [List.getElem?_zipIdx] at hi
  obtain ⟨y, hy, rfl⟩ := Option.map_eq_some_iff.1 hi
  exact List.mem_of_getElem? hy
theorem btext_take (l : List (List UInt8 × It)) (k : Nat) (h : k < l.length) : btext (l.take (k + 1)) = btext (l.take k) ++ (l[k].1 ++ itText l[k].2) := by
  rw [List.take_succ_eq_append_getElem h, btext, List.flatMap_append]; simp [btext]
theorem place_take (at_ : Int) (l : List (List UInt8 × It)) (k : Nat) (h : k < l.length) : place at_ (l.take (k + 1)) = place at_ (l.take k) ++ [⟨l[k].2.tag, l[k].2.n, at_ + (btext (l.take k)).length + l[k].1.length⟩] := by
  rw [List.take_succ_eq_append_getElem h, place_append]; rfl
theorem btext_le (l : List (List UInt8 × It)) (h : ∀ p ∈ l, p.1.length ≤ 3) : (btext l).length ≤ 17 * l.length := by
  induction l with
  | nil => simp [btext]
  | cons p l ih =>
    have h0 := h p (List.mem_cons_self ..)
    have h1 := itText_len p.2
    have := ih (fun p hp => h p (List.mem_cons_of_mem _ hp))
    simp only [btext, List.flatMap_cons, List.length_append, List.length_cons] at this ⊢
    omega
theorem withB_le (bl : List Int) (its : List It) : ∀ p ∈ withB bl its, p.1.length ≤ 3 := by
  intro p hp
  obtain ⟨q, hq, rfl⟩ := List.mem_map.1 hp
  exact blankOf_len _ _
/-- the items behind k rounds: places told for the first k -/
def placed (L : List (List UInt8 × It)) (its : List It) (k : Nat) : List It := place 0 (L.take k) ++ its.drop k
theorem placed_get (bl : List Int) (its : List It) (k : Nat) (h : k < its.length) (h2 : k < (placed (withB bl its) its k).length) : (placed (withB bl its) its k)[k] = its[k] := by
  have hl : (place 0 ((withB bl its).take k)).length = k := by rw [place_length, List.length_take, withB_length]; omega
  have e : ∀ (l : List It) (h3 : k < l.length), l = place 0 ((withB bl its).take k) ++ its.drop k → l[k] = its[k] := by
    rintro l h3 rfl
    rw [List.getElem_append_right (by omega)]
    simp [hl]
  exact e _ h2 rfl
theorem placed_len (bl : List Int) (its : List It) (k : Nat) (h : k ≤ its.length) : (placed (withB bl its) its k).length = its.length := by
  unfold placed
  rw [List.length_append, place_length, List.length_take, withB_length, List.length_drop]; omega
theorem placed_set (bl : List Int) (its : List It) (k : Nat) (h : k < its.length) :
    (placed (withB bl its) its k).set k ⟨its[k].tag, its[k].n, ((btext ((withB bl its).take k) ++ blankOf bl k).length : Nat)⟩ = placed (withB bl its) its (k + 1) := by
  have hl : (place 0 ((withB bl its).take k)).length = k := by rw [place_length, List.length_take, withB_length]; omega
  have hw : k < (withB bl its).length := by rw [withB_length]; exact h
  unfold placed
  rw [List.set_append_right _ _ (by omega), hl, Nat.sub_self, List.drop_eq_getElem_cons h, List.set_cons_zero, place_take _ _ _ hw, withB_get _ _ _ h hw, List.append_assoc]
  simp
theorem owns_below {w w' : World} {base sz n : Nat} {E : TypeId} {v : Value} {xs : List Value} (h : w.ownsRow base E sz v n xs) (hb : Below w.heap.size w w') : w'.ownsRow base E sz v n xs := by
  refine h.kept (row := none) (grownBy_of_below hb) ?_
  cases v.ownBlock with
  | none => exact .inl rfl
  | some k => exact .inr (by simp)
theorem pick4 (x : Int) (q : Nat) (hq : pickI x 4 = q) (bl : List Int) (k : Nat) (hx : bl[k]? = some x) (w : World) :
    (w.alloc (Obj.cells #[Value.string ⟨#[]⟩, Value.string ⟨#[32]⟩, Value.string ⟨#[10]⟩, Value.string ⟨#[9, 13, 32]⟩] 9)).cell? ⟨w.heap.size, q, none⟩ = some (.string (S (blankOf bl k))) ∧ q < 4 := by
  have h0 := pickI_nonneg x (n := 4) (by omega)
  have h1 := pickI_lt x (n := 4) (by omega)
  have key := fun j u hj => new_cells w [Value.string ⟨#[]⟩, Value.string ⟨#[32]⟩, Value.string ⟨#[10]⟩, Value.string ⟨#[9, 13, 32]⟩] 9 j u hj
  unfold blankOf
  rw [hx]
  dsimp only
  rw [hq] at h0 h1 ⊢
  have hq4 : q = 0 ∨ q = 1 ∨ q = 2 ∨ q = 3 := by omega
  refine ⟨?_, by omega⟩
  rcases hq4 with rfl | rfl | rfl | rfl
  · exact key 0 _ rfl
  · exact key 1 _ rfl
  · exact key 2 _ rfl
  · exact key 3 _ rfl

set_option maxHeartbeats 8000000 in
set_option maxRecDepth 100000 in
theorem back_walk (rv bv : Value) (raw : List (Int × Int)) (bl : List Int) (w : World) (hg : Good w) (hr : RawRow w rv raw) (hbl : IntRow w bv bl)
    (hrl : raw.length ≤ 140737488351232) (hbll : bl.length ≤ 140737488351232) :
    Calls Tryd.prog 4 #[rv, bv] w fun e w' => e = .returned (.bool true) ∧ Below w.heap.size w w' := by
  obtain ⟨⟨ba, bcap, rfl, hbc⟩, hbr⟩ := hbl
  have HBC := Lib.hid hbc
  have HBR := Lib.hid hbr
  clear hbc hbr
  go_enter Tryd.func4, Tryd.ntmps4
  go_wp2_with fail
  refine (awake_walk _ hg).mono ?_
  rintro e w1 ⟨rfl, hb1⟩
  go_wp2_with fail
  refine (items_walk _ raw _ (by omega) (hr.below hb1)).mono ?_
  rintro e w2 ⟨lv, rfl, ho, hb2⟩
  have hb12 := hb1.trans (hb2.mono hb1.size)
  have hn := items_len raw
  have hval := items_valid raw
  have ho2 := owns_mono ho hb1.size
  clear ho hr hb1 hb2
  generalize items raw = its at *
  have HBV := Lib.hid (withB_valid (bl := bl) hval)
  have HLE := Lib.hid (withB_le bl its)
  have hwl := withB_length bl its
  clear hval
  go_wp2_with fail
  go_loopw [7, 8] (fun sv iv wr => ∃ k : Nat, k ≤ its.length ∧ iv = .int .i64 k ∧ sv = .string (S (btext ((withB bl its).take k))) ∧ wr.ownsRow w.heap.size 37 3 lv its.length (itCells (placed (withB bl its) its k)) ∧ Below w.heap.size w wr) (fun _ i _ => its.length - (intOf i).toNat)
  case atStart => exact ⟨0, Nat.zero_le _, rfl, rfl, by simpa [placed, place] using ho2, hb12⟩
  case round =>
    obtain ⟨k, hk, rfl, rfl, hown, hbw⟩ := hrel
    have hbt : (btext ((withB bl its).take k)).length ≤ 17 * 40 := by
      have := btext_le ((withB bl its).take k) (fun p hp => HLE.out p (List.mem_of_mem_take hp))
      rw [List.length_take] at this
      omega
    have hts := S_size (btext ((withB bl its).take k))
    have hgr := hg.below hbw hg.2
    by_cases hlt : k < its.length
    · rcases hown.2 with ⟨rfl, h0⟩ | ⟨g, cap, cur, rfl, hbg, hh, hc, hmx, hs, ht⟩
      · omega
      · have hlt' : (k : Int) < its.length := by omega
        have hpl : k < (placed (withB bl its) its k).length := by rw [placed_len _ _ _ hk]; exact hlt
        have hget := placed_get bl its k hlt hpl
        have hnext := placed_set bl its k hlt
        have hw : k < (withB bl its).length := by omega
        have HBT := Lib.hid (btext_take (withB bl its) k hw)
        have HWG := Lib.hid (withB_get bl its k hlt hw)
        have hbkl := blankOf_len bl k
        have hS := S_size (blankOf bl k)
        have happ := S_append (btext ((withB bl its).take k)) (blankOf bl k)
        obtain ⟨pre, hpre⟩ : ∃ pre, btext ((withB bl its).take k) ++ blankOf bl k = pre := ⟨_, rfl⟩
        rw [hpre] at hnext happ
        have hprel : pre.length ≤ 700 := by rw [← hpre, List.length_append]; omega
        have hprs := S_size pre
        clear hh hs ht
        by_cases hbk : k < bl.length
        · obtain ⟨bb, bo, rfl, hbb, q0⟩ := HBC.out k hbk
          have hrg := HBR.out bl[k] (List.getElem_mem hbk)
          have p0 := (hbw.cell (p := ⟨bb, bo + k, none⟩) hbb).trans q0
          have hbx : bl[k]? = some bl[k] := List.getElem?_eq_getElem hbk
          obtain ⟨q, hq⟩ : ∃ q : Nat, pickI bl[k] 4 = q := ⟨_, (Int.toNat_of_nonneg (pickI_nonneg bl[k] (n := 4) (by omega))).symm⟩
          obtain ⟨hqc, hq4⟩ := pick4 bl[k] q hq bl k hbx wr
          generalize bl[k] = x at *
          obtain ⟨x0, x1⟩ := hrg
          have hq4' : (q : Int) < 4 := by omega
          have hbA : Below w.heap.size w (wr.alloc (Obj.cells #[Value.string ⟨#[]⟩, Value.string ⟨#[32]⟩, Value.string ⟨#[10]⟩, Value.string ⟨#[9, 13, 32]⟩] 9)) := hbw.alloc hbw.size _
          have p1 := (hbA.cell (p := ⟨bb, bo + k, none⟩) hbb).trans q0
          have hgA := hg.below hbA hg.2
          have hownW := hown.alloc (Obj.cells #[Value.string ⟨#[]⟩, Value.string ⟨#[32]⟩, Value.string ⟨#[10]⟩, Value.string ⟨#[9, 13, 32]⟩] 9)
          clear hown hbw hgr p0 q0
          have hbk' : (k : Int) < bl.length := by omega
          go_wp2_with fail
          refine (pick_any _ _ _ (by omega) (by omega) (by omega) (by omega)).mono ?_
          rintro e w' ⟨rfl, rfl⟩
          rw [hq]
          generalize (wr.alloc (Obj.cells #[Value.string ⟨#[]⟩, Value.string ⟨#[32]⟩, Value.string ⟨#[10]⟩, Value.string ⟨#[9, 13, 32]⟩] 9)) = W at *
          have hst := hownW.stored (k * 3 + 2) (.int .i64 (pre.length : Nat))
          have hcell := hownW.cellAt (k * 3 + 2) (by omega)
          have hcel0 := hownW.cellAt (k * 3 + 0) (by omega)
          have hcel1 := hownW.cellAt (k * 3 + 1) (by omega)
          have hfz := hownW.frozenAt (k * 3 + 2)
          rw [itCells_get _ k 2 hpl (by omega), hget] at hcell
          rw [itCells_get _ k 1 hpl (by omega), hget] at hcel1
          rw [itCells_get _ k 0 hpl (by omega), hget] at hcel0
          replace hcell : W.cell? ⟨g, k * 3 + 2, none⟩ = some (.int .i64 its[k].at_) := hcell
          replace hcel1 : W.cell? ⟨g, k * 3 + 1, none⟩ = some (.int .i64 its[k].n) := hcel1
          replace hcel0 : W.cell? ⟨g, k * 3, none⟩ = some (.int .u8 its[k].tag.toNat) := hcel0
          rw [itCells_set _ k 2 _ ⟨its[k].tag, its[k].n, (pre.length : Nat)⟩ hpl (by omega) (by rw [hget]; rfl), hnext] at hst
          have HST := Lib.hid hst
          have hbS := below_grown1 hbA hst.2 hbg hbA.size
          clear hst hownW hget hnext hpl
          generalize hxk : its[k] = x at *
          go_wp2_with fail
          obtain ⟨W2, hW2⟩ : ∃ W2, (W.setCell { block := g, off := k * 3 + 2 } (Value.int IntKind.i64 ↑pre.length)) = W2 := ⟨_, rfl⟩
          rw [hW2] at hbS HST ⊢
          have hb6 : Below w.heap.size w (W2.alloc (Obj.cells #[Value.int IntKind.u8 ↑x.tag.toNat, Value.int IntKind.i64 x.n, Value.int IntKind.i64 ↑pre.length] 37)) := hbS.alloc hbS.size _
          have hlit : (W2.alloc (Obj.cells #[Value.int IntKind.u8 ↑x.tag.toNat, Value.int IntKind.i64 x.n, Value.int IntKind.i64 ↑pre.length] 37)).ownsRow w.heap.size 37 3 (.slice (some ⟨W2.heap.size, 0, none⟩) 1 1) 1 (itCells [⟨x.tag, x.n, (pre.length : Nat)⟩]) :=
            World.ownsRow_lit W2 #[Value.int IntKind.u8 ↑x.tag.toNat, Value.int IntKind.i64 x.n, Value.int IntKind.i64 ↑pre.length] 1 hbS.size (by decide) rfl
          have hsz2 : W2.heap.size = W.heap.size := by rw [← hW2]; simp
          rw [hsz2] at hlit
          refine (text_walk _ [⟨x.tag, x.n, (pre.length : Nat)⟩] _ (by simp) (hg.below hb6 hg.2) (itrow_of_owns hlit)).mono ?_
          rintro e w5 ⟨rfl, hb5⟩
          have hbE := hb6.trans (hb5.mono hb6.size)
          have hoE := owns_below (HST.out.1.alloc (Obj.cells #[Value.int IntKind.u8 ↑x.tag.toNat, Value.int IntKind.i64 x.n, Value.int IntKind.i64 ↑pre.length] 37)) hb5
          have htx : text [⟨x.tag, x.n, (pre.length : Nat)⟩] = itText x := by simp [text]; rfl
          have hil := itText_len x
          have his := S_size (itText x)
          rw [htx]
          have hfin : S pre ++ S (itText x) = S (btext ((withB bl its).take (k + 1))) := by
            rw [HBT.out, HWG.out, S_append, ← List.append_assoc, hpre]
          clear hlit hb6 HST hb5 hbS hcell hcel0 hcel1 hfz
          go_wp2_with fail
          exact ⟨⟨k + 1, by omega, by simp, rfl, hoE, hbE⟩, by simp [intOf]; omega⟩
        · have hbe : blankOf bl k = [] := by unfold blankOf; rw [List.getElem?_eq_none (by omega)]
          have hbk' : (bl.length : Int) ≤ k := by omega
          rw [hbe, List.append_nil] at hpre
          have hownW := hown
          have hbA := hbw
          have hgA := hgr
          clear hown hbw hgr happ
          rw [hpre]
          rw [hpre] at hts
          generalize wr = W at *
          have hst := hownW.stored (k * 3 + 2) (.int .i64 (pre.length : Nat))
          have hcell := hownW.cellAt (k * 3 + 2) (by omega)
          have hcel0 := hownW.cellAt (k * 3 + 0) (by omega)
          have hcel1 := hownW.cellAt (k * 3 + 1) (by omega)
          have hfz := hownW.frozenAt (k * 3 + 2)
          rw [itCells_get _ k 2 hpl (by omega), hget] at hcell
          rw [itCells_get _ k 1 hpl (by omega), hget] at hcel1
          rw [itCells_get _ k 0 hpl (by omega), hget] at hcel0
          replace hcell : W.cell? ⟨g, k * 3 + 2, none⟩ = some (.int .i64 its[k].at_) := hcell
          replace hcel1 : W.cell? ⟨g, k * 3 + 1, none⟩ = some (.int .i64 its[k].n) := hcel1
          replace hcel0 : W.cell? ⟨g, k * 3, none⟩ = some (.int .u8 its[k].tag.toNat) := hcel0
          rw [itCells_set _ k 2 _ ⟨its[k].tag, its[k].n, (pre.length : Nat)⟩ hpl (by omega) (by rw [hget]; rfl), hnext] at hst
          have HST := Lib.hid hst
          have hbS := below_grown1 hbA hst.2 hbg hbA.size
          clear hst hownW hget hnext hpl
          generalize hxk : its[k] = x at *
          go_wp2_with fail
          obtain ⟨W2, hW2⟩ : ∃ W2, (W.setCell { block := g, off := k * 3 + 2 } (Value.int IntKind.i64 ↑pre.length)) = W2 := ⟨_, rfl⟩
          rw [hW2] at hbS HST ⊢
          have hb6 : Below w.heap.size w (W2.alloc (Obj.cells #[Value.int IntKind.u8 ↑x.tag.toNat, Value.int IntKind.i64 x.n, Value.int IntKind.i64 ↑pre.length] 37)) := hbS.alloc hbS.size _
          have hlit : (W2.alloc (Obj.cells #[Value.int IntKind.u8 ↑x.tag.toNat, Value.int IntKind.i64 x.n, Value.int IntKind.i64 ↑pre.length] 37)).ownsRow w.heap.size 37 3 (.slice (some ⟨W2.heap.size, 0, none⟩) 1 1) 1 (itCells [⟨x.tag, x.n, (pre.length : Nat)⟩]) :=
            World.ownsRow_lit W2 #[Value.int IntKind.u8 ↑x.tag.toNat, Value.int IntKind.i64 x.n, Value.int IntKind.i64 ↑pre.length] 1 hbS.size (by decide) rfl
          have hsz2 : W2.heap.size = W.heap.size := by rw [← hW2]; simp
          rw [hsz2] at hlit
          refine (text_walk _ [⟨x.tag, x.n, (pre.length : Nat)⟩] _ (by simp) (hg.below hb6 hg.2) (itrow_of_owns hlit)).mono ?_
          rintro e w5 ⟨rfl, hb5⟩
          have hbE := hb6.trans (hb5.mono hb6.size)
          have hoE := owns_below (HST.out.1.alloc (Obj.cells #[Value.int IntKind.u8 ↑x.tag.toNat, Value.int IntKind.i64 x.n, Value.int IntKind.i64 ↑pre.length] 37)) hb5
          have htx : text [⟨x.tag, x.n, (pre.length : Nat)⟩] = itText x := by simp [text]; rfl
          have hil := itText_len x
          have his := S_size (itText x)
          rw [htx]
          have hfin : S pre ++ S (itText x) = S (btext ((withB bl its).take (k + 1))) := by
            rw [HBT.out, HWG.out, S_append, ← List.append_assoc, hbe, List.append_nil, hpre]
          clear hlit hb6 HST hb5 hbS hcell hcel0 hcel1 hfz
          go_wp2_with fail
          exact ⟨⟨k + 1, by omega, by simp, rfl, hoE, hbE⟩, by simp [intOf]; omega⟩
    · have hkl : k = its.length := by omega
      subst hkl
      have e1 : (withB bl its).take its.length = withB bl its := by rw [← hwl, List.take_length]
      have e2 : placed (withB bl its) its its.length = place 0 (withB bl its) := by unfold placed; rw [e1, List.drop_length, List.append_nil]
      rw [e1] at hbt hts ⊢
      rw [e2] at hown
      have hpl := place_length 0 (withB bl its)
      rw [hwl] at hpl
      have hrow : ItRow wr lv (place 0 (withB bl its)) := itrow_of_owns (by rw [hpl]; exact hown)
      have L1 := lex_told (withB bl its) [109, 111, 114, 101] HBV.out (by simp; omega)
      have hrow2 := hrow
      obtain ⟨a, cap, rfl, -⟩ := hrow2
      rw [hpl] at hrow ⊢
      clear ho2 hown e1 e2
      go_wp2_with fail
      refine (lex_callS (l := btext (withB bl its) ++ 33 :: [109, 111, 114, 101]) (S_append _ _) L1 (by simp; omega) _).mono ?_
      rintro e w5 ⟨va, rfl, ho5, hb5⟩
      have hb15 := hbw.trans (hb5.mono hbw.size)
      have r5 := itrow_of_owns ho5
      have r6 := hrow.below hb5
      clear ho5 L1
      go_wp2_with fail
      refine (same_walk _ _ _ _ _ (by omega) (by omega) r6 r5).mono ?_
      rintro e w' ⟨rfl, nn, rfl⟩
      go_wp2
      go_ret
      exact ⟨rfl, below_drewN hb15 nn⟩
end Go.Proofs.YtnpndkmcgpaibaaDoor
