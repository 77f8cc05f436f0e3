/- The walk of chapter 4's law TokenJoined. -/
import Derived.Test.YtnpndkmcgpaibaaDoorO
set_option linter.unusedVariables false
namespace Go.Proofs.YtnpndkmcgpaibaaDoor
open Go.RowKit Go.Sort

theorem bare_append (a b : List It) : bare (a ++ b) = bare a ++ bare b := by simp [bare]
theorem bare_length (a : List It) : (bare a).length = a.length := by simp [bare]
theorem place_bounds (l : List (List UInt8 × It)) : ∀ (at_ : Int), ∀ x ∈ place at_ l, at_ ≤ x.at_ ∧ x.at_ ≤ at_ + (btext l).length := by
  induction l with
  | nil => intro at_ x hx; simp [place] at hx
  | cons p l ih =>
    obtain ⟨b, y⟩ := p
    intro at_ x hx
    have e : ((btext ((b, y) :: l)).length : Int) = b.length + (itText y).length + (btext l).length := by simp [btext]; omega
    rw [place, List.mem_cons] at hx
    rcases hx with rfl | hx
    · dsimp only; omega
    · have := ih _ x hx
      omega
/-- an item row, as a slice with its cells at one block -/
theorem itrow_cases {w : World} {v : Value} {l : List It} (h : ItRow w v l) : ∃ a cap, v = .slice a l.length cap ∧ ∀ i (h : i < l.length), ∃ b o, a = some ⟨b, o, none⟩ ∧ b < w.heap.size ∧
    w.cell? ⟨b, o + i * 3, none⟩ = some (.int .u8 (l[i]).tag.toNat) ∧ w.cell? ⟨b, o + i * 3 + 1, none⟩ = some (.int .i64 (l[i]).n) ∧ w.cell? ⟨b, o + i * 3 + 2, none⟩ = some (.int .i64 (l[i]).at_) := h

theorem joined_get (A B : List It) (k : Nat) (hk : k < B.length) (h : A.length + k < (place 0 (bare (A ++ B))).length) (h2 : k < (place 0 (bare B)).length) :
    (place 0 (bare (A ++ B)))[A.length + k] = ⟨((place 0 (bare B))[k]).tag, ((place 0 (bare B))[k]).n, ((place 0 (bare B))[k]).at_ + (text A).length⟩ := by
  have e : place 0 (bare (A ++ B)) = place 0 (bare A) ++ (place 0 (bare B)).map fun x => ⟨x.tag, x.n, x.at_ + (text A).length⟩ := by
    rw [bare_append, place_append, place_shift, btext_bare]
  have hl : (place 0 (bare A)).length = A.length := by rw [place_length, bare_length]
  have e2 : ∀ (l : List It) (h3 : A.length + k < l.length), l = place 0 (bare A) ++ ((place 0 (bare B)).map fun x => (⟨x.tag, x.n, x.at_ + (text A).length⟩ : It)) →
      l[A.length + k] = ⟨((place 0 (bare B))[k]).tag, ((place 0 (bare B))[k]).n, ((place 0 (bare B))[k]).at_ + (text A).length⟩ := by
    rintro l h3 rfl
    rw [List.getElem_append_right (by omega)]
    simp [hl]
  exact e2 _ h e

theorem itCells_one (l : List It) : ∀ u ∈ itCells l, u.oneCell' = true := by
  intro u hu
  obtain ⟨x, _, hx⟩ := List.mem_flatMap.1 hu
  simp [itCell] at hx
  rcases hx with rfl | rfl | rfl <;> rfl
/-- 'append(a, b...)' of two item rows, under a guard or not -/
theorem wpList_append_items {ops : Array Oper} {rest : List Oper} {o : Oper} {a : Act} {w : World} {Q : Exit → Act → World → Prop} (hw : Region.wanted o (yielded ops a.tmps) = true) (s x : Operand)
    (ho : o.op = .call { callee := .builtin .append, args := #[s, x], argTypes := #[22, 22] }) (base base' : Nat) (v u : Value) (A B : List It) (hs : a.eval s = v) (hx : a.eval x = u)
    (hown : w.ownsRow base 37 3 v A.length (itCells A)) (hu : w.ownsRow base' 37 3 u B.length (itCells B)) (hl : A.length + B.length ≤ 1000000) (hbase : base ≤ w.heap.size)
    (h : ∀ v' w', w'.ownsRow base 37 3 v' (A ++ B).length (itCells (A ++ B)) → w.grownBy w' v.ownBlock → wpList Tryd.prog ops Q rest (a.put o.dst v') w') : wpList Tryd.prog ops Q (o :: rest) a w := by
  obtain ⟨i0, hi0, hz0, hz1, hz2⟩ := info_parts infoItem
  refine BigFrame.wpList_want hw fun K hK => ?_
  rcases hu.2 with ⟨rfl, h0⟩ | ⟨g, cap, cur, rfl, _, _, _, _, _, _⟩
  · have hB : B = [] := List.eq_nil_of_length_eq_zero h0
    subst hB
    have hr := run_append_owned_none (P := Tryd.prog) (w := w) base 22 o.type 37 i0 3 Tryd.underlying22 hi0 v A.length (itCells A) hown
    have h2 := h v w (by simpa using hown) (by exact ⟨rfl, rfl, rfl, Nat.le_refl _, fun _ _ _ => rfl⟩)
    unfold Oper.wp execOp
    simp only [ho, resolve, invoke, builtin, Sem.run_bind, Sem.run_pure, Result.andThen_ok, List.map_toArray, List.map_cons, List.map_nil, hs, hx, hr]
    exact hK _ _ h2
  · refine wp_append_own w s x 22 ho base 37 i0 (.agg #[.int .u8 0, .int .i64 0, .int .i64 0]) 3 24 Tryd.underlying22 hi0 hz0 hz1 hz2 rfl (by decide) v A.length (itCells A) hs hown ⟨g, 0, none⟩ B.length cap (itCells B) hx
      (itCells_length B) (hu.cells (g := g) rfl) (itCells_one B) (by unfold maxLen; omega) (by omega) hbase ?_
    intro v' w' h1 h2 _
    refine hK _ _ (h v' w' ?_ h2)
    rw [List.length_append, itCells_append]
    exact h1

set_option maxHeartbeats 8000000 in
set_option maxRecDepth 100000 in
theorem joined_walk (rv rv' : Value) (raw raw' : List (Int × Int)) (w : World) (hg : Good w) (hr : RawRow w rv raw) (hr' : RawRow w rv' raw')
    (hrl : raw.length ≤ 140737488351232) (hrl' : raw'.length ≤ 140737488351232) :
    Calls Tryd.prog 6 #[rv, rv'] w fun e w' => e = .returned (.bool true) ∧ Below w.heap.size w w' := by
  go_enter Tryd.func6, Tryd.ntmps6
  go_wp2_with fail
  refine (awake_walk _ hg).mono ?_
  rintro e w1 ⟨rfl, hb1⟩
  go_wp2_with fail
  refine (items_walk _ raw _ (by omega) (hr.below hb1)).mono ?_
  rintro e w2 ⟨av, rfl, hoA, hb2⟩
  have hb12 := hb1.trans (hb2.mono hb1.size)
  go_wp2_with fail
  refine (items_walk _ raw' _ (by omega) (hr'.below hb12)).mono ?_
  rintro e w3 ⟨bv, rfl, hoB, hb3⟩
  have hb13 := hb12.trans (hb3.mono hb12.size)
  have hnA := items_len raw
  have hnB := items_len raw'
  have hvA := items_valid raw
  have hvB := items_valid raw'
  have htA := text_items_len raw
  have htB := text_items_len raw'
  have hoA3 := owns_mono (owns_below hoA hb3) hb1.size
  have hoB3 := owns_mono hoB hb12.size
  clear hoA hoB hr hr' hb1 hb2 hb3
  generalize items raw = A at *
  generalize items raw' = B at *
  have hg3 := hg.below hb13 hg.2
  go_wp2_with fail
  refine (text_walk _ _ _ (by omega) hg3 (itrow_of_owns hoA3)).mono ?_
  rintro e w4 ⟨rfl, hb4⟩
  have hb14 := hb13.trans (hb4.mono hb13.size)
  have hoA4 := owns_below hoA3 hb4
  have hoB4 := owns_below hoB3 hb4
  have hg4 := hg.below hb14 hg.2
  go_wp2_with fail
  refine (text_walk _ _ _ (by omega) hg4 (itrow_of_owns hoB4)).mono ?_
  rintro e w5 ⟨rfl, hb5⟩
  have hb15 := hb14.trans (hb5.mono hb14.size)
  have hoA5 := owns_below hoA4 hb5
  have hoB5 := owns_below hoB4 hb5
  have sA := S_size (text A)
  have sB := S_size (text B)
  clear hoA3 hoB3 hoA4 hoB4
  go_wp2_with fail
  have hvAB : ∀ x ∈ A ++ B, valid x := fun x hx => (List.mem_append.1 hx).elim (hvA x) (hvB x)
  have L1 := lex_told (bare (A ++ B)) [] (bvalid_bare hvAB) (by rw [btext_bare, text_append]; simp; omega)
  have L2 := lex_told (bare B) [] (bvalid_bare hvB) (by rw [btext_bare]; simp; omega)
  rw [btext_bare, text_append] at L1
  rw [btext_bare] at L2
  have hab : ((text A ++ text B).length : Int) = (text A).length + (text B).length := by simp
  rw [hab] at L1
  refine (lex_callS (l := text A ++ text B ++ [33]) (by rw [S_append]; exact S_append _ _) L1 (by simp; omega) _).mono ?_
  rintro e w6 ⟨lv, rfl, ho6, hb6⟩
  have hb16 := hb15.trans (hb6.mono hb15.size)
  go_wp2_with fail
  refine (lex_callS (l := text B ++ [33]) (S_append _ _) L2 (by simp; omega) _).mono ?_
  rintro e w7 ⟨mv, rfl, ho7, hb7⟩
  have hb17 := hb16.trans (hb7.mono hb16.size)
  have hoA7 := owns_below (owns_below hoA5 hb6) hb7
  have hoB7 := owns_below (owns_below hoB5 hb6) hb7
  have rL := (itrow_of_owns ho6).below hb7
  have rM := itrow_of_owns ho7
  have hJ := Lib.hid (joined_get A B)
  have lL : (place 0 (bare (A ++ B))).length = A.length + B.length := by rw [place_length, bare_length, List.length_append]
  have lM : (place 0 (bare B)).length = B.length := by rw [place_length, bare_length]
  have HPB := Lib.hid (place_bounds (bare B) 0)
  rw [btext_bare] at HPB
  clear L1 L2 ho6 ho7 hb4 hb5 hb6 hb7 hoA5 hoB5
  generalize place 0 (bare (A ++ B)) = LL at *
  generalize place 0 (bare B) = MM at *
  obtain ⟨la, lcap, rfl, hlc⟩ := itrow_cases rL
  obtain ⟨ma, mcap, rfl, hmc⟩ := itrow_cases rM
  have HLC := Lib.hid hlc
  have HMC := Lib.hid hmc
  obtain ⟨aa, acap, rfl, hac⟩ := itrow_cases (itrow_of_owns hoA7)
  obtain ⟨ba, bcap, rfl, hbc⟩ := itrow_cases (itrow_of_owns hoB7)
  clear hlc hmc rL rM hac hbc
  rw [lL, lM]
  have hll : ((A.length + B.length : Nat) : Int) = (A.length : Int) + B.length := by omega

  go_wp2_with fail
  go_loopw [16] (fun i wr => ∃ k : Nat, k ≤ B.length ∧ i = .int .i64 k ∧ Below w7.heap.size w7 wr) (fun i _ => B.length - (intOf i).toNat)
  case atStart => exact ⟨0, Nat.zero_le _, rfl, Below.refl _ _⟩
  case round =>
    obtain ⟨k, hk, rfl, hbr⟩ := hrel
    by_cases hlt : k < B.length
    · obtain ⟨lb, lo, rfl, hlb, a0, a1, a2⟩ := HLC.out (A.length + k) (by omega)
      obtain ⟨mb, mo, rfl, hmb, c0, c1, c2⟩ := HMC.out k (by omega)
      have hj := hJ.out k hlt (by omega) (by omega)
      rw [hj] at a0 a1 a2
      dsimp only at a0 a1 a2
      have hxb := HPB.out MM[k] (List.getElem_mem (by omega))
      generalize MM[k] = x at *
      obtain ⟨hxb0, hxb1⟩ := hxb
      have p0 := (hbr.cell (p := ⟨lb, lo + (A.length + k) * 3, none⟩) hlb).trans a0
      have p1 := (hbr.cell (p := ⟨lb, lo + (A.length + k) * 3 + 1, none⟩) hlb).trans a1
      have p2 := (hbr.cell (p := ⟨lb, lo + (A.length + k) * 3 + 2, none⟩) hlb).trans a2
      have hbr2 : Below w7.heap.size w7 (wr.alloc (Obj.cells #[Value.int IntKind.u8 ↑x.tag.toNat, Value.int IntKind.i64 x.n, Value.int IntKind.i64 (x.at_ + ↑(text A).length)] 37)) := hbr.alloc hbr.size _
      have q0 := (hbr2.cell (p := ⟨mb, mo + k * 3, none⟩) hmb).trans c0
      have q1 := (hbr2.cell (p := ⟨mb, mo + k * 3 + 1, none⟩) hmb).trans c1
      have q2 := (hbr2.cell (p := ⟨mb, mo + k * 3 + 2, none⟩) hmb).trans c2
      have n0 : (wr.alloc (Obj.cells #[Value.int IntKind.u8 ↑x.tag.toNat, Value.int IntKind.i64 x.n, Value.int IntKind.i64 (x.at_ + ↑(text A).length)] 37)).cell? ⟨wr.heap.size, 0, none⟩ = some (.int .u8 x.tag.toNat) := new_cells wr (itCell ⟨x.tag, x.n, x.at_ + ((text A).length : Int)⟩) 37 0 _ rfl
      have n1 : (wr.alloc (Obj.cells #[Value.int IntKind.u8 ↑x.tag.toNat, Value.int IntKind.i64 x.n, Value.int IntKind.i64 (x.at_ + ↑(text A).length)] 37)).cell? ⟨wr.heap.size, 1, none⟩ = some (.int .i64 x.n) := new_cells wr (itCell ⟨x.tag, x.n, x.at_ + ((text A).length : Int)⟩) 37 1 _ rfl
      have n2 : (wr.alloc (Obj.cells #[Value.int IntKind.u8 ↑x.tag.toNat, Value.int IntKind.i64 x.n, Value.int IntKind.i64 (x.at_ + ↑(text A).length)] 37)).cell? ⟨wr.heap.size, 2, none⟩ = some (.int .i64 (x.at_ + ((text A).length : Int))) := new_cells wr (itCell ⟨x.tag, x.n, x.at_ + ((text A).length : Int)⟩) 37 2 _ rfl
      have hlt' : (k : Int) < B.length := by omega
      have hidx : (((A.length : Int) + k)).toNat = A.length + k := by omega
      clear a0 a1 a2 c0 c1 c2 hj
      go_wp2_with fail
      clear p0 p1 p2 hbr
      generalize (wr.alloc (Obj.cells #[Value.int IntKind.u8 ↑x.tag.toNat, Value.int IntKind.i64 x.n, Value.int IntKind.i64 (x.at_ + ↑(text A).length)] 37)) = W at *
      go_quiet (fail)
      go_wp2_with fail
      exact ⟨⟨k + 1, by omega, by simp, below_drewN hbr2 nq⟩, by simp [intOf]; omega⟩
    · have hkl : k = B.length := by omega
      subst hkl
      have hoA := owns_below hoA7 hbr
      have hoB := owns_below hoB7 hbr
      have hb18 := hb17.trans (hbr.mono hb17.size)
      clear hoA7 hoB7 HLC HMC hJ hbr
      have happ := S_append (text A) (text B)
      go_wp2_with (at_builtin; first | refine wpList_append_items rfl _ _ rfl wr.heap.size w.heap.size _ _ [] A rfl rfl (World.ownsRow_nil _ _ _ _) hoA ?e1 ?e2 ?_)
      case e1 => simp; omega
      case e2 => exact Nat.le_refl _
      intro v1 w8 ho8 hg8
      have hb8 : Below wr.heap.size wr w8 := below_own (Below.refl _ wr) hg8 (World.ownsRow_nil wr wr.heap.size 37 3) (Nat.le_refl _) (Nat.le_refl _)
      have hoB8 := owns_below hoB hb8
      have hb19 := hb18.trans (hb8.mono hb18.size)
      clear hoA hoB hg8
      go_wp2_with (at_builtin; first | refine wpList_append_items rfl _ _ rfl wr.heap.size w.heap.size _ _ A B rfl rfl ho8 hoB8 ?f1 ?f2 ?_)
      case f1 => omega
      case f2 => exact hb8.size
      intro v2 w9 ho9 hg9
      replace ho9 : w9.ownsRow wr.heap.size 37 3 v2 (A ++ B).length (itCells (A ++ B)) := by rw [List.length_append]; exact ho9
      have hb9 : Below w.heap.size w w9 := below_own hb19 hg9 ho8 hb18.size hb19.size
      have hgg := hg.below hb9 hg.2
      clear ho8 hoB8 hg9
      go_wp2_with fail
      refine (text_walk _ (A ++ B) _ (by simp; omega) hgg (itrow_of_owns ho9)).mono ?_
      rintro e w10 ⟨rfl, hb10⟩
      have hfin := hb9.trans (hb10.mono hb9.size)
      rw [text_append]
      go_wp2
      go_ret
      exact ⟨rfl, hfin⟩
end Go.Proofs.YtnpndkmcgpaibaaDoor
