/- Walk of chapter 4's reference: Lex. -/
import Derived.Test.YtnpndkmcgpaibaaDoorI
set_option linter.unusedVariables false
namespace Go.Proofs.YtnpndkmcgpaibaaDoor
open Go.RowKit Go.Sort

theorem lexLoop_nil (f : Nat) (at_ : Int) (acc : List It) : lexLoop f [] at_ acc = ([], 31, at_) := by
  cases f with
  | zero => rfl
  | succ f => rw [lexLoop_succ, runLen_nil]; simp [lexStep]
theorem lexLoop_blank (f : Nat) (c : UInt8) (r : List UInt8) (at_ : Int) (acc : List It) (h : isBlank c = true) : lexLoop (f + 1) (c :: r) at_ acc = lexLoop (f + 1) r (at_ + 1) acc := by
  rw [lexLoop_succ, lexLoop_succ, runLen_cons_true r h, List.drop_succ_cons]
  congr 1; omega
theorem lexLoop_head (f : Nat) (c : UInt8) (r : List UInt8) (at_ : Int) (acc : List It) (h : isBlank c = false) : lexLoop (f + 1) (c :: r) at_ acc = lexStep f (c :: r) at_ acc := by
  rw [lexLoop_succ, runLen_cons_false r h]; simp
theorem lexStep_else (f : Nat) (c : UInt8) (r : List UInt8) (at_ : Int) (acc : List It) (h : c ≠ 33) : lexStep f (c :: r) at_ acc = match item (c :: r) with
    | .inl e => ([], e, at_)
    | .inr (t, n, m) => lexLoop f ((c :: r).drop m) (at_ + m) (acc ++ [⟨t, n, at_⟩]) := if_neg h
theorem item_eq (l : List UInt8) (k : Nat) (hk : runLen isDigit l = k) : item l = match l.drop k with
    | [] => .inl 30
    | c :: _ => if isTag c = false then .inl 30 else if k = 0 then .inr (c, 1, 1) else if l.head? = some 48 then .inl 30
      else if (cparse (l.take k)).2 ≠ 0 ∨ maxCoord < (cparse (l.take k)).1 then .inl 2 else .inr (c, (cparse (l.take k)).1, k + 1) := by
  subst hk; rfl

set_option maxHeartbeats 8000000 in
set_option maxRecDepth 100000 in
theorem rlex_walk (l : List UInt8) (w : World) (hl : l.length ≤ 9223372036854775807) :
    Calls Tryd.prog 19 #[.string (S l)] w (LexPost l w) := by
  have hsz := S_size l
  by_cases hbig : 20000 < l.length
  · have hx : Hid (lex l = ([], 3, 0)) := if_pos hbig
    go_enter Tryd.func19, Tryd.ntmps19
    go_wp2
    go_ret3
    exact lexPost_mk hx.out (World.ownsRow_nil _ _ _ _) (Below.refl _ _)
  · have hx : Hid (lex l = lexLoop (l.length + 1) l 0 []) := if_neg hbig
    have hl2 : l.length ≤ 20000 := by omega
    go_enter Tryd.func19, Tryd.ntmps19
    go_wp2
    go_loopw [5, 6] (fun v vi wr => ∃ (i f : Nat) (acc : List It), i ≤ l.length ∧ vi = .int .i64 i ∧ l.length - i < f ∧ acc.length ≤ i ∧ wr.ownsRow w.heap.size 37 3 v acc.length (itCells acc) ∧ Below w.heap.size w wr ∧ lexLoop f (l.drop i) i acc = lex l) (fun _ vi _ => l.length - (intOf vi).toNat)
    case atStart =>
      exact ⟨0, l.length + 1, [], Nat.zero_le _, rfl, by omega, by simp, World.ownsRow_nil _ _ _ _, Below.refl _ w, hx.out.symm⟩
    case round =>
      obtain ⟨i, f, acc, hi, rfl, hf, hacc, hown, hbw, hlx⟩ := hrel
      have hs := hbw.size
      by_cases hp : i < l.length
      · obtain ⟨c, hc⟩ : ∃ c, l[i]'hp = c := ⟨_, rfl⟩
        have hget : ∀ h, (S l)[i]'h = c := fun h => (S_get l i h).trans hc
        have hdrop := List.drop_eq_getElem_cons hp
        rw [hc] at hdrop
        rw [hdrop] at hlx
        obtain ⟨g, rfl⟩ : ∃ g, f = g + 1 := ⟨f - 1, by omega⟩
        have HX := Lib.hid hlx
        have HD := Lib.hid hdrop
        have HC := Lib.hid hc
        clear hlx hx hdrop hc
        cases hb : isBlank c with
        | true =>
          have HY : Hid (lexLoop (g + 1) (l.drop (i + 1)) ((i + 1 : Nat) : Int) acc = lex l) := mkHid (by rw [← HX.out, lexLoop_blank _ _ _ _ _ hb]; rfl)
          go_wp2_with (go_at_call 39; refine (blank_any c _).mono ?_; rintro e w' ⟨rfl, rfl⟩)
          go_roundw
          case rel => exact ⟨i + 1, g + 1, acc, by omega, by go_num, by omega, by omega, hown, hbw, HY.out⟩
          case measure => simp [intOf]; omega
        | false =>
          have HH : Hid (lexStep g (c :: l.drop (i + 1)) i acc = lex l) := mkHid (by rw [← HX.out, lexLoop_head _ _ _ _ _ hb])
          clear HX
          by_cases h33 : c = 33
          · subst h33
            go_wp2_with (go_at_call 39; refine (blank_any 33 _).mono ?_; rintro e w' ⟨rfl, rfl⟩)
            go_ret3
            exact lexPost_mk HH.out.symm hown hbw
          · have hcb : ((c.toNat : Int) == 33) = false := by
              rw [beq_eq_false_iff_ne]; intro h; exact h33 (UInt8.toNat_inj.1 (by show c.toNat = 33; omega))
            have HZ : Hid (lex l = match item (c :: l.drop (i + 1)) with
                | .inl e => ([], e, (i : Int))
                | .inr (t, n, m) => lexLoop g ((c :: l.drop (i + 1)).drop m) ((i : Int) + m) (acc ++ [⟨t, n, i⟩])) := mkHid (by rw [← HH.out, lexStep_else _ _ _ _ _ h33])
            clear HH h33
            go_wp2_with (go_at_call 39; refine (blank_any c _).mono ?_; rintro e w' ⟨rfl, rfl⟩)
            go_loopw [7] (fun vk wi => ∃ j : Nat, i + j ≤ l.length ∧ vk = .int .i64 ((i + j : Nat) : Int) ∧ wi = wr ∧ j + runLen isDigit (l.drop (i + j)) = runLen isDigit (l.drop i)) (fun vk _ => l.length - (intOf vk).toNat)
            case atStart => exact ⟨0, by omega, rfl, rfl, by simp⟩
            case round =>
              obtain ⟨j, hj, rfl, rfl, hrun⟩ := hrel
              have HRU := Lib.hid hrun
              clear hrun
              by_cases hq : i + j < l.length
              · obtain ⟨d, hd⟩ : ∃ d, l[i + j]'hq = d := ⟨_, rfl⟩
                have hgetd : ∀ h, (S l)[i + j]'h = d := fun h => (S_get l (i + j) h).trans hd
                have hdrop2 := List.drop_eq_getElem_cons hq
                rw [hd] at hdrop2
                have HD2 := Lib.hid hdrop2
                have hqi : ((i + j : Nat) : Int) < (l.length : Int) := by omega
                clear hd hdrop2
                cases hdd : isDigit d with
                | true =>
                  have HRR : Hid (j + 1 + runLen isDigit (l.drop (i + (j + 1))) = runLen isDigit (l.drop i)) := mkHid (by
                    have := HRU.out
                    rw [HD2.out, runLen_cons_true _ hdd] at this
                    rw [← Nat.add_assoc i j 1]; omega)
                  go_wp2_with (go_at_call 40; refine (digit_any d _).mono ?_; rintro e w' ⟨rfl, rfl⟩)
                  go_roundw
                  case rel => exact ⟨j + 1, by omega, by go_num, by trivial, HRR.out⟩
                  case measure => simp [intOf]; omega
                | false =>
                  have HJ : Hid (runLen isDigit (l.drop i) = j) := mkHid (by
                    have := HRU.out
                    rw [HD2.out, runLen_cons_false _ hdd] at this
                    omega)
                  have HIT : Hid (item (c :: l.drop (i + 1)) = if isTag d = false then .inl 30 else if j = 0 then .inr (d, 1, 1) else if (c :: l.drop (i + 1)).head? = some 48 then .inl 30
                      else if (cparse ((l.drop i).take j)).2 ≠ 0 ∨ maxCoord < (cparse ((l.drop i).take j)).1 then .inl 2 else .inr (d, (cparse ((l.drop i).take j)).1, j + 1)) := mkHid (by
                    rw [← HD.out, item_eq _ j HJ.out, List.drop_drop, HD2.out])
                  have hb1 : (((i + j : Nat) : Int) == (l.length : Int)) = false := by rw [beq_eq_false_iff_ne]; omega
                  have hb2 : ((i : Int) + (j : Int) == (l.length : Int)) = false := by rw [beq_eq_false_iff_ne]; omega
                  have HM : Hid ((c :: l.drop (i + 1)).drop (j + 1) = l.drop (i + j + 1)) := mkHid (by rw [← HD.out, List.drop_drop, Nat.add_assoc])
                  cases htag : isTag d with
                  | false =>
                    have HX : Hid (lex l = ([], 30, (i : Int))) := mkHid (by rw [HZ.out, HIT.out, if_pos htag])
                    clear HZ HIT
                    go_wp2_with (first | (go_at_call 40; refine (digit_any d _).mono ?_; rintro e w' ⟨rfl, rfl⟩) | (go_at_call 35; refine (tag_any d _).mono ?_; rintro e w' ⟨rfl, rfl⟩))
                    go_ret3
                    exact lexPost_mk HX.out (World.ownsRow_nil _ _ _ _) hbw
                  | true =>
                    by_cases hj0 : j = 0
                    · have hcd : c = d := by
                        have h1 := HD.out
                        rw [show i = i + j from by omega, HD2.out] at h1
                        exact (List.cons.inj h1).1.symm
                      have h48 : ((c.toNat : Int) == 48) = false := by
                        rw [beq_eq_false_iff_ne]; intro h
                        have : d = 48 := by rw [← hcd]; exact UInt8.toNat_inj.1 (by show c.toNat = 48; omega)
                        rw [this] at htag; cases htag
                      have HX : Hid (lexLoop g (l.drop (i + j + 1)) ((i + j + 1 : Nat) : Int) (acc ++ [It.mk d 1 i]) = lex l) := mkHid (by
                        rw [HZ.out, HIT.out, if_neg (by rw [htag]; simp), if_pos hj0]
                        show _ = lexLoop g (List.drop 1 (c :: List.drop (i + 1) l)) ((i : Int) + ((1 : Nat) : Int)) _
                        rw [← HM.out, hj0]; rfl)
                      have hnl : ¬ (i : Int) < ((i + j : Nat) : Int) := by omega
                      have hnl2 : ¬ (i : Int) < (i : Int) + (j : Int) := by omega
                      clear HZ HIT HM hcd hj0
                      obtain ⟨i0, hi0, hz0, hz1, hz2⟩ := info_parts infoItem
                      go_wp2_with (first | (go_at_call 40; refine (digit_any d _).mono ?_; rintro e w' ⟨rfl, rfl⟩) | (go_at_call 35; refine (tag_any d _).mono ?_; rintro e w' ⟨rfl, rfl⟩) | (at_builtin; refine wpList_append_own _ rfl _ _ 22 rfl w.heap.size 37 i0 (.agg #[.int .u8 0, .int .i64 0, .int .i64 0]) 3 24 Tryd.underlying22 hi0 hz0 hz1 hz2 rfl (by decide) _ _ _ rfl ((hown.alloc _).alloc _) ⟨wr.heap.size + 1, 0, none⟩ 1 1 (itCell ⟨d, 1, i⟩) rfl rfl ?c1 ?c2 ?c3 ?c4 ?c5 ?_))
                      case c1 =>
                        intro jj u hj
                        have := new_cells (wr.alloc (Obj.cells #[Value.int IntKind.u8 d.toNat, Value.int IntKind.i64 1, Value.int IntKind.i64 i] 37)) (itCell ⟨d, 1, i⟩) 37 jj u hj
                        rw [show (wr.alloc (Obj.cells #[Value.int IntKind.u8 d.toNat, Value.int IntKind.i64 1, Value.int IntKind.i64 i] 37)).heap.size = wr.heap.size + 1 from by simp] at this
                        exact this
                      case c2 => intro u hu; simp [itCell] at hu; rcases hu with rfl | rfl | rfl <;> rfl
                      case c3 => unfold maxLen; omega
                      case c4 => omega
                      case c5 => simp; omega
                      intro v' w4 hown' hgrow _
                      have hown4 := (hown.alloc (Obj.cells #[Value.int IntKind.u8 d.toNat, Value.int IntKind.i64 1, Value.int IntKind.i64 i] 37)).alloc (Obj.cells #[Value.int IntKind.u8 d.toNat, Value.int IntKind.i64 1, Value.int IntKind.i64 i] 37)
                      have hbw4 : Below w.heap.size w w4 := below_own ((hbw.alloc (by omega) _).alloc (by simp; omega) _) hgrow hown4 (Nat.le_refl _) (by simp; omega)
                      have hown5 : w4.ownsRow w.heap.size 37 3 v' (acc ++ [It.mk d 1 i]).length (itCells (acc ++ [It.mk d 1 i])) := by
                        rw [itCells_append]; simpa [itCells] using hown'
                      clear hown' hgrow hown4 hown hbw
                      go_wp2
                      go_roundw
                      case rel => exact ⟨i + j + 1, g, acc ++ [It.mk d 1 i], by omega, by go_num, by omega, by simp; omega, hown5, hbw4, HX.out⟩
                      case measure => simp [intOf]; omega
                    · have hlt0 : (i : Int) < ((i + j : Nat) : Int) := by omega
                      have hlt1 : (i : Int) < (i : Int) + (j : Int) := by omega
                      by_cases h48 : c = 48
                      · have HX : Hid (lex l = ([], 30, (i : Int))) := mkHid (by rw [HZ.out, HIT.out, if_neg (by rw [htag]; simp), if_neg hj0, if_pos (by rw [h48]; rfl)])
                        have h48b : ((c.toNat : Int) == 48) = true := by rw [h48]; rfl
                        clear HZ HIT h48
                        go_wp2_with (first | (go_at_call 40; refine (digit_any d _).mono ?_; rintro e w' ⟨rfl, rfl⟩) | (go_at_call 35; refine (tag_any d _).mono ?_; rintro e w' ⟨rfl, rfl⟩))
                        go_ret3
                        exact lexPost_mk HX.out (World.ownsRow_nil _ _ _ _) hbw
                      · have h48b : ((c.toNat : Int) == 48) = false := by
                          rw [beq_eq_false_iff_ne]; intro h; exact h48 (UInt8.toNat_inj.1 (by show c.toNat = 48; omega))
                        have HIT2 : Hid (item (c :: l.drop (i + 1)) = if (cparse ((l.drop i).take j)).2 ≠ 0 ∨ maxCoord < (cparse ((l.drop i).take j)).1 then .inl 2 else .inr (d, (cparse ((l.drop i).take j)).1, j + 1)) := mkHid (by
                          rw [HIT.out, if_neg (by rw [htag]; simp), if_neg hj0, if_neg (by simpa using h48)])
                        clear HIT h48
                        have hN : (S l).extract i (i + j) = S ((l.drop i).take j) := by
                          rw [S_extract]; congr 1; rw [List.drop_take]; congr 1; omega
                        go_wp2_with (first | (go_at_call 40; refine (digit_any d _).mono ?_; rintro e w' ⟨rfl, rfl⟩) | (go_at_call 35; refine (tag_any d _).mono ?_; rintro e w' ⟨rfl, rfl⟩))
                        refine (parse03_any _ _ (by rw [List.length_take]; omega)).mono ?_
                        rintro e w3 ⟨rfl, rfl⟩
                        obtain ⟨pn, hpn⟩ : ∃ pn, (cparse ((l.drop i).take j)).1 = pn := ⟨_, rfl⟩
                        obtain ⟨pe, hpe⟩ : ∃ pe, (cparse ((l.drop i).take j)).2 = pe := ⟨_, rfl⟩
                        rw [hpn, hpe] at HIT2 ⊢
                        clear hpn hpe hN
                        by_cases hpe0 : pe = 0
                        · by_cases hpm : 1099511627776 < pn
                          · have HX : Hid (lex l = ([], 2, (i : Int))) := mkHid (by rw [HZ.out, HIT2.out, if_pos (.inr hpm)])
                            clear HZ HIT2
                            subst hpe0
                            go_wp2
                            go_ret3
                            exact lexPost_mk HX.out (World.ownsRow_nil _ _ _ _) (hbw.alloc hs _)
                          · have HX : Hid (lexLoop g (l.drop (i + j + 1)) ((i + j + 1 : Nat) : Int) (acc ++ [It.mk d pn i]) = lex l) := mkHid (by
                              rw [HZ.out, HIT2.out, if_neg (by rintro (h | h); exact h hpe0; exact hpm h)]
                              show _ = lexLoop g (List.drop (j + 1) (c :: List.drop (i + 1) l)) ((i : Int) + ((j + 1 : Nat) : Int)) _
                              rw [HM.out, show ((i + j + 1 : Nat) : Int) = (i : Int) + ((j + 1 : Nat) : Int) from by omega])
                            clear HZ HIT2 HM
                            subst hpe0
                            obtain ⟨i0, hi0, hz0, hz1, hz2⟩ := info_parts infoItem
                            go_wp2_with (at_builtin; refine wpList_append_own _ rfl _ _ 22 rfl w.heap.size 37 i0 (.agg #[.int .u8 0, .int .i64 0, .int .i64 0]) 3 24 Tryd.underlying22 hi0 hz0 hz1 hz2 rfl (by decide) _ _ _ rfl ((hown.alloc _).alloc _) ⟨wr.heap.size + 1, 0, none⟩ 1 1 (itCell ⟨d, pn, i⟩) rfl rfl ?d1 ?d2 ?d3 ?d4 ?d5 ?_)
                            case d1 =>
                              intro jj u hj
                              have := new_cells (wr.alloc (Obj.cells #[Value.int IntKind.u8 d.toNat, Value.int IntKind.i64 pn, Value.int IntKind.i64 i] 37)) (itCell ⟨d, pn, i⟩) 37 jj u hj
                              rw [show (wr.alloc (Obj.cells #[Value.int IntKind.u8 d.toNat, Value.int IntKind.i64 pn, Value.int IntKind.i64 i] 37)).heap.size = wr.heap.size + 1 from by simp] at this
                              exact this
                            case d2 => intro u hu; simp [itCell] at hu; rcases hu with rfl | rfl | rfl <;> rfl
                            case d3 => unfold maxLen; omega
                            case d4 => omega
                            case d5 => simp; omega
                            intro v' w4 hown' hgrow _
                            have hown4 := (hown.alloc (Obj.cells #[Value.int IntKind.u8 d.toNat, Value.int IntKind.i64 pn, Value.int IntKind.i64 i] 37)).alloc (Obj.cells #[Value.int IntKind.u8 d.toNat, Value.int IntKind.i64 pn, Value.int IntKind.i64 i] 37)
                            have hbw4 : Below w.heap.size w w4 := below_own ((hbw.alloc (by omega) _).alloc (by simp; omega) _) hgrow hown4 (Nat.le_refl _) (by simp; omega)
                            have hown5 : w4.ownsRow w.heap.size 37 3 v' (acc ++ [It.mk d pn i]).length (itCells (acc ++ [It.mk d pn i])) := by
                              rw [itCells_append]; simpa [itCells] using hown'
                            clear hown' hgrow hown4 hown hbw
                            go_wp2
                            go_roundw
                            case rel => exact ⟨i + j + 1, g, acc ++ [It.mk d pn i], by omega, by go_num, by omega, by simp; omega, hown5, hbw4, HX.out⟩
                            case measure => simp [intOf]; omega
                        · have HX : Hid (lex l = ([], 2, (i : Int))) := mkHid (by rw [HZ.out, HIT2.out, if_pos (.inl hpe0)])
                          have hpb : (pe == 0) = false := by rw [beq_eq_false_iff_ne]; exact hpe0
                          have hpb2 : (pe != 0) = true := by rw [bne_iff_ne]; exact hpe0
                          clear HZ HIT2 hpe0
                          go_wp2
                          go_ret3
                          exact lexPost_mk HX.out (World.ownsRow_nil _ _ _ _) (hbw.alloc hs _)
              · have hij : i + j = l.length := by omega
                have HIT : Hid (lex l = ([], 30, (i : Int))) := mkHid (by
                  have h1 := HRU.out
                  rw [hij, List.drop_length, runLen_nil] at h1
                  have h2 : item (c :: l.drop (i + 1)) = .inl 30 := by
                    rw [← HD.out, item_eq _ j (by omega), List.drop_drop, hij, List.drop_length]
                  rw [HZ.out, h2])
                have hq' : ¬ ((i + j : Nat) : Int) < (l.length : Int) := by omega
                have hb1 : (((i + j : Nat) : Int) == (l.length : Int)) = true := by rw [beq_iff_eq]; omega
                have hb2 : ((i : Int) + (j : Int) == (l.length : Int)) = true := by rw [beq_iff_eq]; omega
                clear hij
                go_wp2
                go_ret3
                exact lexPost_mk HIT.out (World.ownsRow_nil _ _ _ _) hbw
      · have : i = l.length := by omega
        subst this
        rw [List.drop_length, lexLoop_nil] at hlx
        have HX := Lib.hid hlx
        clear hlx
        go_wp2
        go_ret3
        exact lexPost_mk HX.out.symm (World.ownsRow_nil _ _ _ _) hbw
end Go.Proofs.YtnpndkmcgpaibaaDoor
