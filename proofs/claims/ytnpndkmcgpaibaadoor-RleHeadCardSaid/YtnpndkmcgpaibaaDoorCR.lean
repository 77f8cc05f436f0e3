/- Parse of the reference walked. -/
import Derived.Test.YtnpndkmcgpaibaaDoorPE
import Derived.Test.YtnpndkmcgpaibaaDoorCP
import Derived.Test.YtnpndkmcgpaibaaDoorCI
import Derived.Test.YtnpndkmcgpaibaaDoorL
import Derived.Test.YtnpndkmcgpaibaaDoorU
import Derived.Deep.CutRange
import Derived.Deep.CutBlock
set_option linter.unusedVariables false
namespace Go.Proofs.YtnpndkmcgpaibaaDoor
open Go.RowKit Go.Sort
attribute [local go_sem high] eqA89

theorem itrow_cases2 {w : World} {v : Value} {l : List It} (h : ItRow w v l) : ∃ a cap, v = .slice a l.length cap ∧ ∀ i (h : i < l.length), ∃ b o, a = some ⟨b, o, none⟩ ∧ b < w.heap.size ∧
    w.cell? ⟨b, o + i * 3, none⟩ = some (.int .u8 (l[i]).tag.toNat) ∧ w.cell? ⟨b, o + i * 3 + 1, none⟩ = some (.int .i64 (l[i]).n) ∧ w.cell? ⟨b, o + i * 3 + 2, none⟩ = some (.int .i64 (l[i]).at_) := h
theorem body_bad {a : Nat} {s : List UInt8} {its : List It} {pl e t : Int} (hl : lex s = (its, 0, pl)) (hr : penRun its pen0 = ([], e, t)) (he : e ≠ 0) : bodyP a s = ([], e, a + t) := by
  rw [body_err (e := 0) hl hr, if_neg he]
theorem body_good {a : Nat} {s : List UInt8} {its : List It} {pl t : Int} {o : List (Int × Int)} (hl : lex s = (its, 0, pl)) (hr : penRun its pen0 = (o, 0, t)) : bodyP a s = (o, 0, 0) := by
  rw [body_err (e := 0) hl hr, if_pos rfl]
def ParsePost (l : List UInt8) (w : World) (e : Ending) (w' : World) : Prop :=
  ∃ v, e = .returned (.tuple #[v, .int .i64 (parseP l).2.1, .int .i64 (parseP l).2.2]) ∧ w'.ownsRow w.heap.size 89 2 v (parseP l).1.length (ceCells (parseP l).1) ∧ Below w.heap.size w w'
theorem parsePost_mk {l : List UInt8} {w w' : World} {v : Value} {o : List (Int × Int)} {a b : Int} (h : parseP l = (o, a, b)) (ho : w'.ownsRow w.heap.size 89 2 v o.length (ceCells o)) (hb : Below w.heap.size w w') :
    ParsePost l w (.returned (.tuple #[v, .int .i64 a, .int .i64 b])) w' := by
  refine ⟨v, ?_, ?_, hb⟩
  · rw [h]
  · rw [h]; exact ho

set_option maxHeartbeats 8000000 in
set_option maxRecDepth 100000 in
theorem rparse_walk (l : List UInt8) (w : World) (hl : l.length ≤ 4611686018427387904) :
    Calls Tryd.prog 28 #[.string (S l)] w (ParsePost l w) := by
  have hsz := S_size l
  by_cases hbig : 20000 < l.length
  · have hx : Hid (parseP l = ([], 3, 0)) := mkHid (by rw [parseP_eq, if_pos hbig])
    have hbig' : (20000 : Int) < l.length := by omega
    go_enter Tryd.func28, Tryd.ntmps28
    go_wp2_with fail
    go_ret3
    exact parsePost_mk hx.out (World.ownsRow_nil _ _ _ _) (Below.refl _ w)
  · have hbig' : ¬ (20000 : Int) < l.length := by omega
    have HPE := Lib.hid (parseP_eq l)
    rw [if_neg hbig] at HPE
    go_enter Tryd.func28, Tryd.ntmps28
    go_upto_block 0 with fail
    go_cut [5] from 6 to 47 (fun at_ wc => at_ = .int .i64 (hAt l : Nat) ∧ wc = w)
    case first =>
      go_wp2_with fail
      go_loopw [5] (fun i wr => ∃ k : Nat, k ≤ l.length ∧ i = .int .i64 k ∧ k + hAt (l.drop k) = hAt l ∧ wr = w) (fun i _ => l.length - (intOf i).toNat)
      case atStart => exact ⟨0, Nat.zero_le _, rfl, by simp, rfl⟩
      case round =>
        obtain ⟨k, hk, rfl, hat, rfl⟩ := hrel
        have HAT := mkHid hat
        clear hat
        have hex : (S l).extract k l.length = S (l.drop k) := by rw [S_extract, List.take_length]
        have hkl' : (k : Int) ≤ l.length := by omega
        have hrl : (l.drop k).length = l.length - k := by simp
        have hle := lineLen_le (l.drop k)
        by_cases hlt : k < l.length
        · have hlt' : (k : Int) < l.length := by omega
          have hget := S_get l k (by omega)
          have hhd : (l.drop k).head? = some l[k] := by rw [List.drop_eq_getElem_cons hlt]; rfl
          generalize hc : l[k] = c at *
          by_cases h35 : c = 35
          · subst h35
            go_wp2_with fail
            refine (rline_any (l.drop k) _ (by omega)).mono ?_
            rintro e w' ⟨rfl, hw'⟩
            rw [hw']
            clear hw' w'
            by_cases hln : lineLen (l.drop k) < (l.drop k).length
            · have HLP : lineP (l.drop k) = ((l.drop k).take (lineLen (l.drop k)), true) := by unfold lineP; rw [if_pos hln]
              rw [HLP]
              have HST := Lib.hid (hAt_step hhd hln)
              rw [List.drop_drop] at HST
              have hz2 := S_size ((l.drop k).take (lineLen (l.drop k)))
              have hz3 : ((l.drop k).take (lineLen (l.drop k))).length = lineLen (l.drop k) := by rw [List.length_take]; omega
              rw [hz3] at hz2
              clear HLP
              dsimp only
              generalize lineLen (l.drop k) = m at *
              have HN : Hid ((k + (m + 1)) + hAt (l.drop (k + (m + 1))) = hAt l) := mkHid (by rw [← HAT.out, HST.out]; omega)
              clear hhd hget hc
              go_wp2_with fail
              exact ⟨⟨k + (m + 1), by omega, by simp; omega, HN.out, trivial⟩, by simp [intOf]; omega⟩
            · have HLP : lineP (l.drop k) = ([], false) := by unfold lineP; rw [if_neg hln]
              rw [HLP]
              have HE : Hid (hAt l = k) := mkHid (by rw [← HAT.out, hAt_stop (fun h => hln h.2)]; omega)
              clear HLP hhd hget hc
              dsimp only
              go_wp2_with fail
              go_meet
              case rel => exact ⟨by rw [HE.out], rfl⟩
          · have hcb : ((c.toNat : Int) == 35) = false := by
              rw [beq_eq_false_iff_ne]; intro h
              exact h35 (UInt8.toNat_inj.1 (by show c.toNat = 35; omega))
            have HE : Hid (hAt l = k) := mkHid (by
              rw [← HAT.out, hAt_stop (fun h => h35 (by have := h.1; rw [hhd] at this; simpa using this))]; omega)
            clear hhd h35 hc
            go_wp2_with fail
            go_meet
            case rel => exact ⟨by rw [HE.out], rfl⟩
        · have hkl : k = l.length := by omega
          subst hkl
          have HE : Hid (hAt l = l.length) := mkHid (by
            rw [← HAT.out, hAt_stop]
            · omega
            · intro h; simp at h)
          have hlt' : ¬ ((l.length : Nat) : Int) < l.length := by omega
          go_wp2_with fail
          go_meet
          case rel => exact ⟨by rw [HE.out], rfl⟩
    case rest =>
      obtain ⟨rfl, rfl⟩ := hcut
      have hA := hAt_le l
      have hle := lineLen_le (l.drop (hAt l))
      have hrl : (l.drop (hAt l)).length = l.length - hAt l := by simp
      generalize hAt l = A at *
      have hex : (S l).extract A l.length = S (l.drop A) := by rw [S_extract, List.take_length]
      have hA' : (A : Int) ≤ l.length := by omega
      go_wp2_with fail
      refine (rline_any (l.drop A) _ (by omega)).mono ?_
      rintro e w' ⟨rfl, hw'⟩
      rw [hw']
      clear hw' w'
      by_cases hln : lineLen (l.drop A) < (l.drop A).length
      · have HLP : lineP (l.drop A) = ((l.drop A).take (lineLen (l.drop A)), true) := by unfold lineP; rw [if_pos hln]
        rw [HLP]
        clear HLP
        have hz2 := S_size ((l.drop A).take (lineLen (l.drop A)))
        have hz3 : ((l.drop A).take (lineLen (l.drop A))).length = lineLen (l.drop A) := by rw [List.length_take]; omega
        rw [hz3] at hz2
        generalize hL : (l.drop A).take (lineLen (l.drop A)) = L at *
        generalize lineLen (l.drop A) = m at *
        dsimp only
        go_wp2_with fail
        refine (rhead_any L wc (by omega)).mono ?_
        rintro e w1 ⟨rfl, n1, rfl⟩
        have hb1 := below_drewN (Below.refl wc.heap.size wc) n1
        generalize wc.drewN n1 = W1 at *
        cases hhd : headOk L with
        | false =>
          have HX : Hid (parseP l = ([], 32, (A : Int))) := mkHid (by rw [HPE.out, if_neg (fun h => by rw [hhd] at h; cases h.2)])
          clear HPE hhd
          go_wp2_with fail
          go_ret3
          exact parsePost_mk HX.out (World.ownsRow_nil _ _ _ _) hb1
        | true =>
          have HX : Hid (parseP l = bodyP (A + m + 1) (l.drop (A + m + 1))) := mkHid (by rw [HPE.out, if_pos ⟨hln, hhd⟩])
          clear HPE hhd
          have hex2 : (S l).extract (A + m + 1) l.length = S (l.drop (A + m + 1)) := by rw [S_extract, List.take_length]
          have hA2 : (A : Int) + m + 1 ≤ l.length := by omega
          have hA3 : ((A : Int) + m + 1).toNat = A + m + 1 := by omega
          go_wp2_with fail
          have ha : ((A : Int) + m + 1) = ((A + m + 1 : Nat) : Int) := by push_cast; rfl
          rw [ha]
          have hlx := (lex_facts (l.drop (A + m + 1))).1
          have hll := lex_len (l.drop (A + m + 1))
          have hxl : (l.drop (A + m + 1)).length = l.length - (A + m + 1) := by simp
          have hal : A + m + 1 ≤ l.length := by omega
          refine (rlex_walk (l.drop (A + m + 1)) W1 (by omega)).mono ?_
          rintro e W2 ⟨lv, rfl, hownI, hb2⟩
          replace hb2 := hb1.trans (hb2.mono hb1.size)
          clear hb1 hA2 hA3 hex2 ha hz2 hz3 hL hln hle hex hA' hrl
          generalize l.drop (A + m + 1) = xs at *
          generalize A + m + 1 = a at *
          obtain ⟨⟨its, e1, pl⟩, hle⟩ : ∃ r, lex xs = r := ⟨_, rfl⟩
          rw [hle] at hlx hll hownI ⊢
          dsimp only at hll hownI ⊢
          have HLE := mkHid hle
          have hlo : 0 ≤ pl := hlx.lo
          have hhi : pl ≤ xs.length := hlx.hi
          have ha2 : (a : Int) ≤ l.length := by omega
          by_cases he : e1 = 0
          · subst he
            have HLX : Hid (lex xs = (its, 0, pl)) := HLE
            have HEA := Lib.hid (hlx.each rfl)
            have heb : ((0 : Int) != 0) = false := rfl
            clear hlx hle HLE
            obtain ⟨av, cap, rfl, hcs⟩ := itrow_cases2 (itrow_of_owns hownI)
            have HC := Lib.hid hcs
            clear hcs hownI
            obtain ⟨i0, hi0, hz0, hz1, hz2⟩ := info_parts infoCell
            go_wp2_with fail
            go_loopw [13, 14, 15, 16, 17] (fun vo xv yv mv i wr => ∃ (k : Nat) (p : Pen), k ≤ its.length ∧ i = .int .i64 k ∧ xv = .int .i64 p.x ∧ yv = .int .i64 p.y ∧ mv = .int .i64 p.many ∧ penAll (its.take k) pen0 = some p ∧ wr.ownsRow W2.heap.size 89 2 vo p.out.length (ceCells p.out) ∧ Below W2.heap.size W2 wr) (fun _ _ _ _ i _ => its.length - (intOf i).toNat)
            case atStart => exact ⟨0, pen0, Nat.zero_le _, rfl, rfl, rfl, rfl, rfl, World.ownsRow_nil _ _ _ _, Below.refl _ _⟩
            case round =>
              obtain ⟨k, p, hk, rfl, rfl, rfl, rfl, hpa, hown, hbx⟩ := hrel
              have hpi := pen_inv (its.take k) pen0 p (fun x hx => (HEA.out x (List.mem_of_mem_take hx)).1) pen0_inv hpa
              have HP := mkHid hpa
              clear hpa
              obtain ⟨px, py, po.length, po⟩ := p
              obtain ⟨h2, h3, h4, h5, h6, h7⟩ := hpi
              dsimp only at h2 h3 h4 h5 h6 h7 hown ⊢
              subst h6
              by_cases hlt : k < its.length
              · obtain ⟨b, o, rfl, hbs, q0, q1, q2⟩ := HC.out k hlt
                have HR := Lib.hid (penRun_at hlt HP.out)
                obtain ⟨hzv, hz3, hz4⟩ := HEA.out its[k] (List.getElem_mem hlt)
                obtain ⟨⟨z1, z2, z3⟩, hz⟩ : ∃ z, its[k] = z := ⟨_, rfl⟩
                have HTZ := mkHid hz
                rw [hz] at q0 q1 q2 HR hzv hz3 hz4
                dsimp only at q0 q1 q2 hz3 hz4
                obtain ⟨htg, hn1, hn2⟩ := hzv
                unfold maxCoord at hn2
                dsimp only at htg hn1 hn2
                clear hz
                have hlt' : (k : Int) < its.length := by omega
                rcases pen_tags htg with rfl | rfl | rfl
                · have HQ : Hid (penDo ⟨px, py, po.length, po⟩ 98 z2 = ⟨px + z2, py, po.length, po⟩) := mkHid rfl
                  by_cases g1 : 1099511627776 < px + z2
                  · have HE : Hid (penErr (penDo ⟨px, py, po.length, po⟩ 98 z2) = 2) := mkHid (by rw [HQ.out]; unfold penErr; rw [if_pos (.inl g1)])
                    have d1 : decide (1099511627776 < px + z2) = true := by simpa using g1
                    have HZ : Hid (parseP l = ([], 2, (a : Int) + z3)) := mkHid (by rw [HX.out]; exact body_bad HLX.out (by rw [HR.out, if_neg (by rw [HE.out]; decide), HE.out]) (by decide))

                    have p0 := (hbx.cell (p := ⟨b, o + k * 3, none⟩) hbs).trans q0
                    have p1 := (hbx.cell (p := ⟨b, o + k * 3 + 1, none⟩) hbs).trans q1
                    have p2 := (hbx.cell (p := ⟨b, o + k * 3 + 2, none⟩) hbs).trans q2

                    clear hown
                    go_wp2_with fail
                    go_quiet (fail)
                    go_wp2_with fail
                    go_ret3
                    exact parsePost_mk HZ.out (World.ownsRow_nil _ _ _ _) (below_drewN (hb2.trans (hbx.mono hb2.size)) _)
                  · have HE : Hid (penErr ⟨px + z2, py, po.length, po⟩ = 0) := mkHid (penErr_of (by unfold maxCoord; dsimp only; omega) (by unfold maxCoord; dsimp only; omega) (by dsimp only; omega))
                    have d1 : decide (1099511627776 < px + z2) = false := by simpa using g1
                    have d2 : decide (1099511627776 < py) = false := by simpa using h5
                    have d3 : decide (2000 < (po.length : Int)) = false := by simp; omega
                    have HAK : Hid (penAll (its.take (k + 1)) pen0 = some ⟨px + z2, py, po.length, po⟩) := mkHid (by have := penAll_succ hlt HP.out (by rw [HTZ.out]; dsimp only; rw [HQ.out]; exact HE.out); rw [HTZ.out] at this; dsimp only at this; rw [HQ.out] at this; exact this)

                    have p0 := (hbx.cell (p := ⟨b, o + k * 3, none⟩) hbs).trans q0
                    have p1 := (hbx.cell (p := ⟨b, o + k * 3 + 1, none⟩) hbs).trans q1
                    have p2 := (hbx.cell (p := ⟨b, o + k * 3 + 2, none⟩) hbs).trans q2

                    go_wp2_with fail
                    go_loopw [13, 20] (fun v j w3 => v = u13 ∧ j = .int .i64 px ∧ w3 = wr) (fun _ _ _ => 0)
                    case atStart => exact ⟨rfl, rfl, rfl⟩
                    case round =>
                      obtain ⟨rfl, rfl, rfl⟩ := hrel
                      go_wp2_with fail
                      exact ⟨⟨k + 1, ⟨px + z2, py, po.length, po⟩, by omega, by simp, rfl, rfl, rfl, HAK.out, hown, hbx⟩, by simp [intOf]; omega⟩
                · have HQ : Hid (penDo ⟨px, py, po.length, po⟩ 36 z2 = ⟨0, py + z2, po.length, po⟩) := mkHid rfl
                  by_cases g1 : 1099511627776 < py + z2
                  · have HE : Hid (penErr (penDo ⟨px, py, po.length, po⟩ 36 z2) = 2) := mkHid (by rw [HQ.out]; unfold penErr; rw [if_pos (.inr g1)])
                    have d1 : decide (1099511627776 < py + z2) = true := by simpa using g1
                    have HZ : Hid (parseP l = ([], 2, (a : Int) + z3)) := mkHid (by rw [HX.out]; exact body_bad HLX.out (by rw [HR.out, if_neg (by rw [HE.out]; decide), HE.out]) (by decide))

                    have p0 := (hbx.cell (p := ⟨b, o + k * 3, none⟩) hbs).trans q0
                    have p1 := (hbx.cell (p := ⟨b, o + k * 3 + 1, none⟩) hbs).trans q1
                    have p2 := (hbx.cell (p := ⟨b, o + k * 3 + 2, none⟩) hbs).trans q2

                    clear hown
                    go_wp2_with fail
                    go_quiet (fail)
                    go_wp2_with fail
                    go_ret3
                    exact parsePost_mk HZ.out (World.ownsRow_nil _ _ _ _) (below_drewN (hb2.trans (hbx.mono hb2.size)) _)
                  · have HE : Hid (penErr ⟨0, py + z2, po.length, po⟩ = 0) := mkHid (penErr_of (by unfold maxCoord; dsimp only; omega) (by unfold maxCoord; dsimp only; omega) (by dsimp only; omega))
                    have d1 : decide (1099511627776 < py + z2) = false := by simpa using g1
                    have d3 : decide (2000 < (po.length : Int)) = false := by simp; omega
                    have HAK : Hid (penAll (its.take (k + 1)) pen0 = some ⟨0, py + z2, po.length, po⟩) := mkHid (by have := penAll_succ hlt HP.out (by rw [HTZ.out]; dsimp only; rw [HQ.out]; exact HE.out); rw [HTZ.out] at this; dsimp only at this; rw [HQ.out] at this; exact this)

                    have p0 := (hbx.cell (p := ⟨b, o + k * 3, none⟩) hbs).trans q0
                    have p1 := (hbx.cell (p := ⟨b, o + k * 3 + 1, none⟩) hbs).trans q1
                    have p2 := (hbx.cell (p := ⟨b, o + k * 3 + 2, none⟩) hbs).trans q2

                    go_wp2_with fail
                    go_loopw [13, 20] (fun v j w3 => v = u13 ∧ j = .int .i64 px ∧ w3 = wr) (fun _ _ _ => 0)
                    case atStart => exact ⟨rfl, rfl, rfl⟩
                    case round =>
                      obtain ⟨rfl, rfl, rfl⟩ := hrel
                      go_wp2_with fail
                      exact ⟨⟨k + 1, ⟨0, py + z2, po.length, po⟩, by omega, by simp, rfl, rfl, rfl, HAK.out, hown, hbx⟩, by simp [intOf]; omega⟩
                · have HQ : Hid (penDo ⟨px, py, po.length, po⟩ 111 z2 = ⟨px + z2, py, (po.length : Int) + z2, po ++ rowOf px py z2.toNat⟩) := mkHid rfl
                  by_cases g1 : 1099511627776 < px + z2
                  · have HE : Hid (penErr (penDo ⟨px, py, po.length, po⟩ 111 z2) = 2) := mkHid (by rw [HQ.out]; unfold penErr; rw [if_pos (.inl g1)])
                    have d1 : decide (1099511627776 < px + z2) = true := by simpa using g1
                    have HZ : Hid (parseP l = ([], 2, (a : Int) + z3)) := mkHid (by rw [HX.out]; exact body_bad HLX.out (by rw [HR.out, if_neg (by rw [HE.out]; decide), HE.out]) (by decide))

                    have p0 := (hbx.cell (p := ⟨b, o + k * 3, none⟩) hbs).trans q0
                    have p1 := (hbx.cell (p := ⟨b, o + k * 3 + 1, none⟩) hbs).trans q1
                    have p2 := (hbx.cell (p := ⟨b, o + k * 3 + 2, none⟩) hbs).trans q2

                    clear hown
                    go_wp2_with fail
                    go_quiet (fail)
                    go_wp2_with fail
                    go_ret3
                    exact parsePost_mk HZ.out (World.ownsRow_nil _ _ _ _) (below_drewN (hb2.trans (hbx.mono hb2.size)) _)
                  · have d1 : decide (1099511627776 < px + z2) = false := by simpa using g1
                    have d2 : decide (1099511627776 < py) = false := by simpa using h5
                    by_cases g2 : 2000 < (po.length : Int) + z2
                    · have HE : Hid (penErr (penDo ⟨px, py, po.length, po⟩ 111 z2) = 3) := mkHid (by rw [HQ.out]; unfold penErr maxCoord; rw [if_neg (by dsimp only; omega), if_pos g2])
                      have d3 : decide (2000 < (po.length : Int) + z2) = true := by simpa using g2
                      have HZ : Hid (parseP l = ([], 3, (a : Int) + z3)) := mkHid (by rw [HX.out]; exact body_bad HLX.out (by rw [HR.out, if_neg (by rw [HE.out]; decide), HE.out]) (by decide))

                      have p0 := (hbx.cell (p := ⟨b, o + k * 3, none⟩) hbs).trans q0
                      have p1 := (hbx.cell (p := ⟨b, o + k * 3 + 1, none⟩) hbs).trans q1
                      have p2 := (hbx.cell (p := ⟨b, o + k * 3 + 2, none⟩) hbs).trans q2

                      clear hown
                      go_wp2_with fail
                      go_quiet (fail)
                      go_wp2_with fail
                      go_ret3
                      exact parsePost_mk HZ.out (World.ownsRow_nil _ _ _ _) (below_drewN (hb2.trans (hbx.mono hb2.size)) _)
                    · have HE : Hid (penErr ⟨px + z2, py, (po.length : Int) + z2, po ++ rowOf px py z2.toNat⟩ = 0) := mkHid (penErr_of (by unfold maxCoord; dsimp only; omega) (by unfold maxCoord; dsimp only; omega) (by dsimp only; omega))
                      have d3 : decide (2000 < (po.length : Int) + z2) = false := by simpa using g2
                      have HAK : Hid (penAll (its.take (k + 1)) pen0 = some ⟨px + z2, py, (po.length : Int) + z2, po ++ rowOf px py z2.toNat⟩) := mkHid (by have := penAll_succ hlt HP.out (by rw [HTZ.out]; dsimp only; rw [HQ.out]; exact HE.out); rw [HTZ.out] at this; dsimp only at this; rw [HQ.out] at this; exact this)
                      have p0 := (hbx.cell (p := ⟨b, o + k * 3, none⟩) hbs).trans q0
                      have p1 := (hbx.cell (p := ⟨b, o + k * 3 + 1, none⟩) hbs).trans q1
                      have p2 := (hbx.cell (p := ⟨b, o + k * 3 + 2, none⟩) hbs).trans q2

                      go_wp2_with fail
                      clear p0 p1 p2
                      go_loopw [13, 20] (fun v j w3 => ∃ c : Nat, (c : Int) ≤ z2 ∧ j = .int .i64 (px + c) ∧ w3.ownsRow W2.heap.size 89 2 v (po ++ rowOf px py c).length (ceCells (po ++ rowOf px py c)) ∧ Below W2.heap.size W2 w3) (fun _ j _ => (px + z2 - intOf j).toNat)
                      case atStart => exact ⟨0, by omega, by simp, by simpa [rowOf] using hown, hbx⟩
                      case round =>
                        clear hown hbx
                        obtain ⟨c, hc, rfl, hown, hbx⟩ := hrel
                        have p0 := (hbx.cell (p := ⟨b, o + k * 3, none⟩) hbs).trans q0
                        have p1 := (hbx.cell (p := ⟨b, o + k * 3 + 1, none⟩) hbs).trans q1
                        have p2 := (hbx.cell (p := ⟨b, o + k * 3 + 2, none⟩) hbs).trans q2

                        by_cases hcz : (c : Int) < z2
                        · have d4 : decide (px + (c : Int) < px + z2) = true := by simp; omega
                          have hlen : (po ++ rowOf px py c).length = po.length + c := by rw [List.length_append, rowOf_len]
                          have HRS : Hid (po ++ rowOf px py (c + 1) = po ++ rowOf px py c ++ [(px + c, py)]) := mkHid (by rw [rowOf_succ, List.append_assoc])
                          go_wp2_with (at_builtin; refine wpList_append_own _ rfl _ _ 43 rfl W2.heap.size 89 i0 (.agg #[.int .i64 0, .int .i64 0]) 2 16 Tryd.underlying43 hi0 hz0 hz1 hz2 rfl (by decide) _ _ _ rfl (hown.alloc _) ⟨wr.heap.size, 0, none⟩ 1 1 (ceCell (px + c, py)) rfl rfl ?c1 ?c2 ?c3 ?c4 ?c5 ?_)
                          case c1 => first | exact fun jj u hj => new_cells wr (ceCell (px + c, py)) 89 jj u hj | exact fun jj u hj => hj
                          case c2 => intro u hu; simp [ceCell] at hu; rcases hu with rfl | rfl <;> rfl
                          case c3 => rw [hlen]; unfold maxLen; omega
                          case c4 => rw [hlen]; omega
                          case c5 => have := hbx.size; simp; omega
                          intro v' w4 hown' hgrow _
                          have hs3 := hbx.size
                          have hown4 := hown.alloc (Obj.cells #[Value.int IntKind.i64 (px + c), Value.int IntKind.i64 py] 89)
                          have hbx4 : Below W2.heap.size W2 w4 := below_own (hbx.alloc hbx.size _) hgrow hown4 (Nat.le_refl _) (by simp; omega)
                          have hown5 : w4.ownsRow W2.heap.size 89 2 v' (po ++ rowOf px py (c + 1)).length (ceCells (po ++ rowOf px py (c + 1))) := by
                            rw [HRS.out, ceCells_append, List.length_append (bs := [(px + (c : Int), py)]), hlen, show ceCells [(px + (c : Int), py)] = ceCell (px + c, py) from by simp [ceCells]]; exact hown'
                          clear hown' hgrow hown4 hown hbx p0 p1 p2
                          go_wp2_with fail
                          exact ⟨⟨c + 1, by push_cast; omega, by simp; omega, hown5, hbx4⟩, by simp [intOf]; omega⟩
                        · have hce : (c : Int) = z2 := by omega
                          have hcn : z2.toNat = c := by omega
                          have d4 : decide (px + (c : Int) < px + z2) = false := by simp; omega
                          go_wp2_with fail
                          exact ⟨⟨k + 1, ⟨px + z2, py, (po.length : Int) + z2, po ++ rowOf px py z2.toNat⟩, by omega, by simp, rfl, rfl, rfl, HAK.out, by dsimp only; rw [hcn]; exact hown, hbx⟩, by simp [intOf]; omega⟩
              · have hkl : k = its.length := by omega
                subst hkl
                have HZ : Hid (parseP l = (po, 0, 0)) := mkHid (by
                  have := HP.out
                  rw [List.take_length] at this
                  rw [HX.out]; exact body_good HLX.out (penRun_all _ _ _ this))
                have hlt' : ¬ ((its.length : Nat) : Int) < its.length := by omega
                go_wp2_with fail
                go_ret3
                exact parsePost_mk HZ.out (owns_lower hown hb2.size) (hb2.trans (hbx.mono hb2.size))
          · have heb : (e1 != 0) = true := by simpa using he
            have HZ : Hid (parseP l = ([], e1, (a : Int) + pl)) := mkHid (by rw [HX.out]; unfold bodyP; rw [HLE.out]; dsimp only; rw [if_neg he])
            clear hle hlx he
            go_wp2_with fail
            go_ret3
            exact parsePost_mk HZ.out (World.ownsRow_nil _ _ _ _) hb2
      · have HLP : lineP (l.drop A) = ([], false) := by unfold lineP; rw [if_neg hln]
        rw [HLP]
        clear HLP
        have HX : Hid (parseP l = ([], 32, (A : Int))) := mkHid (by rw [HPE.out, if_neg (fun h => hln h.1)])
        clear HPE
        dsimp only
        go_wp2_with fail
        go_ret3
        exact parsePost_mk HX.out (World.ownsRow_nil _ _ _ _) (Below.refl _ _)
end Go.Proofs.YtnpndkmcgpaibaaDoor
