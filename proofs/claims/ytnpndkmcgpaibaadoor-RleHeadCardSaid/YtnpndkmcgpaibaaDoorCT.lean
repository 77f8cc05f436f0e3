/- Parse of the program walked. -/
import Derived.Test.YtnpndkmcgpaibaaDoorCS
import Derived.Test.YtnpndkmcgpaibaaDoorCR
import Derived.Test.YtnpndkmcgpaibaaDoorCQ
set_option linter.unusedVariables false
namespace Go.Proofs.YtnpndkmcgpaibaaDoor
open Go.RowKit Go.Sort
attribute [local go_sem high] eqA89

theorem mapIns (w : World) (r : Nat) (es : Array MapEntry) (clock : Nat) (k : Int) (v : Value) (hb : w.heap[r]? = some (.map es clock)) (hn : Instr.findNow (.int .u8) (.int .u8 k) es.toList 0 = some none) :
    ∃ w', (Instr.mapUpdate 102 (.map (some r)) (.int .u8 k) v).run Tryd.prog w = .ok () w' ∧ w'.heap[r]? = some (.map (es.push ⟨.int .u8 k, v, clock⟩) (clock + 1)) ∧ w.grownBy w' (some r) := by
  have hc : (Instr.checkKey false 10000 5 (.int .u8 k)).run Tryd.prog w = .ok () w := MapKept.run_checkKey (k := .int .u8 k) Tryd.underlying5 (by simp [MapKept.IsKey]) false 9999
  have hs := MapKept.heap_set (o' := .map (es.push ⟨.int .u8 k, v, clock⟩) (clock + 1)) hb
  refine ⟨{ w with heap := w.heap.setIfInBounds r (.map (es.push ⟨.int .u8 k, v, clock⟩) (clock + 1)) }, ?_, hs.1, ⟨rfl, rfl, rfl, by simp, fun j hj hne => hs.2 j (fun e => hne (by rw [e]))⟩⟩
  simp [Instr.mapUpdate, run_underlying Tryd.underlying102, MapKept.run_getObj_map hb, hc, MapKept.run_findKey Tryd.underlying5 hn, MapKept.run_setObj_map _ hb, Result.andThen]
theorem mapLook (w : World) (r : Nat) (es : Array MapEntry) (clock : Nat) (k : Int) (v : Value) (i : Nat) (hb : w.heap[r]? = some (.map es clock)) (hn : Instr.findNow (.int .u8) (.int .u8 k) es.toList 0 = some (some (i, v))) :
    (Instr.lookup 102 (.map (some r)) (.int .u8 k) false).run Tryd.prog w = .ok v w := by
  have hc : ∀ e, (Instr.checkKey e 10000 5 (.int .u8 k)).run Tryd.prog w = .ok () w := fun e => MapKept.run_checkKey (k := .int .u8 k) Tryd.underlying5 (by simp [MapKept.IsKey]) e 9999
  simp [Instr.lookup, run_underlying Tryd.underlying102, MapKept.run_getObj_map hb, hc, MapKept.run_findKey Tryd.underlying5 hn, Result.andThen]
/-- the map of the pen's methods -/
def doesMap (pb : Nat) : Array MapEntry :=
  #[⟨.int .u8 98, .func (Fn.func 54) #[.pointer (some ⟨pb, 0, none⟩)] #[], 0⟩, ⟨.int .u8 111, .func (Fn.func 55) #[.pointer (some ⟨pb, 0, none⟩)] #[], 1⟩, ⟨.int .u8 36, .func (Fn.func 56) #[.pointer (some ⟨pb, 0, none⟩)] #[], 2⟩]
theorem three_any (w : World) (b : Nat) (e : TypeId) (z0 z1 z2 : Value) (h : w.heap[b]? = some (.cells #[z0, z1, z2] e (0, 0))) :
    (w.cell? ⟨b, 0, none⟩ = some z0 ∧ w.cell? ⟨b, 1, none⟩ = some z1 ∧ w.cell? ⟨b, 2, none⟩ = some z2) ∧
    (w.frozen? ⟨b, 0, none⟩ = false ∧ w.frozen? ⟨b, 1, none⟩ = false ∧ w.frozen? ⟨b, 2, none⟩ = false) :=
  ⟨⟨cell_of_row w b 0 _ e (0, 0) h, cell_of_row w b 1 _ e (0, 0) h, cell_of_row w b 2 _ e (0, 0) h⟩,
   ⟨frozen_of_row w b 0 _ e h, frozen_of_row w b 1 _ e h, frozen_of_row w b 2 _ e h⟩⟩
theorem owns_no_map {w : World} {base sz n r c : Nat} {E : TypeId} {v : Value} {xs : List Value} {es : Array MapEntry} (h : w.ownsRow base E sz v n xs) (hr : w.heap[r]? = some (.map es c)) : v.ownBlock ≠ some r := by
  intro e
  rcases h.2 with ⟨rfl, _⟩ | ⟨g, cap, cur, rfl, hg, hh, _⟩
  · simp [Value.ownBlock] at e
  · have : g = r := by simpa [Value.ownBlock] using e
    subst this
    rw [hr] at hh
    cases hh

set_option maxHeartbeats 8000000 in
set_option maxRecDepth 100000 in
theorem parse_walk (l : List UInt8) (w : World) (hl : l.length ≤ 4611686018427387904) (hm : Hm w) (hs1 : 1 ≤ w.heap.size) :
    Calls Tryd.prog 27 #[.string (S l)] w (ParsePost l w) := by
  have hsz := S_size l
  by_cases hbig : 20000 < l.length
  · have hx : Hid (parseP l = ([], 3, 0)) := mkHid (by rw [parseP_eq, if_pos hbig])
    have hbig' : (20000 : Int) < l.length := by omega
    go_enter Tryd.func27, Tryd.ntmps27
    go_wp2_with fail
    go_ret3
    exact parsePost_mk hx.out (World.ownsRow_nil _ _ _ _) (Below.refl _ w)
  · have hbig' : ¬ (20000 : Int) < l.length := by omega
    have HPE := Lib.hid (parseP_eq l)
    rw [if_neg hbig] at HPE
    go_enter Tryd.func27, Tryd.ntmps27
    go_wp2_with fail
    refine (body_any l w (by omega) hm hs1).mono ?_
    rintro e w1 ⟨rfl, hb1⟩
    have hm1 := hm.below hb1 hs1
    have hA := hAt_le l
    have hle := lineLen_le (l.drop (hAt l))
    have hrl : (l.drop (hAt l)).length = l.length - hAt l := by simp
    cases hok : (decide (lineLen (l.drop (hAt l)) < (l.drop (hAt l)).length) && headOk ((l.drop (hAt l)).take (lineLen (l.drop (hAt l))))) with
    | false =>
      have HX : Hid (parseP l = ([], 32, ((hAt l : Nat) : Int))) := mkHid (by
        rw [HPE.out, if_neg]
        rintro ⟨h1, h2⟩
        rw [h2, show decide (lineLen (l.drop (hAt l)) < (l.drop (hAt l)).length) = true from by simpa using h1] at hok
        cases hok)
      clear HPE hok
      go_wp2_with fail
      refine (begin_any l w1 (by omega) hm1 (Nat.le_trans hs1 hb1.size)).mono ?_
      rintro e w2 ⟨rfl, hb2⟩
      go_wp2_with fail
      go_ret3
      exact parsePost_mk HX.out (World.ownsRow_nil _ _ _ _) (hb1.trans (hb2.mono hb1.size))
    | true =>
      rw [Bool.and_eq_true, decide_eq_true_eq] at hok
      have HX : Hid (parseP l = bodyP (hAt l + lineLen (l.drop (hAt l)) + 1) (l.drop (hAt l + lineLen (l.drop (hAt l)) + 1))) := mkHid (by rw [HPE.out, if_pos hok])
      have hal : hAt l + lineLen (l.drop (hAt l)) + 1 ≤ l.length := by have := hok.1; omega
      clear HPE hok
      generalize hAt l + lineLen (l.drop (hAt l)) + 1 = a at *
      clear hA hle hrl
      have hex : (S l).extract a l.length = S (l.drop a) := by rw [S_extract, List.take_length]
      have ha2 : (a : Int) ≤ l.length := by omega
      go_wp2_with fail
      have hlx := (lex_facts (l.drop a)).1
      have hll := lex_len (l.drop a)
      refine (lex_walk (l.drop a) w1 (by simp; omega)).mono ?_
      rintro e W2 ⟨lv, rfl, hownI, hb2⟩
      replace hb2 := hb1.trans (hb2.mono hb1.size)
      clear hb1 hex
      have hxl : (l.drop a).length = l.length - a := by simp
      generalize l.drop a = xs at *
      obtain ⟨⟨its, e1, pl⟩, hle⟩ : ∃ r, lex xs = r := ⟨_, rfl⟩
      rw [hle] at hlx hll hownI ⊢
      dsimp only at hll hownI ⊢
      have HLE := mkHid hle
      have hlo : 0 ≤ pl := hlx.lo
      have hhi : pl ≤ xs.length := hlx.hi
      by_cases he : e1 = 0
      · subst he
        have HLX : Hid (lex xs = (its, 0, pl)) := HLE
        have HEA := Lib.hid (hlx.each rfl)
        have heb : ((0 : Int) != 0) = false := rfl
        clear hlx hle HLE
        obtain ⟨av, cap, rfl, hcs⟩ := itrow_cases2 (itrow_of_owns hownI)
        have HC := Lib.hid hcs
        clear hcs hownI
        have hmm := @run_makeMap Tryd.prog
        have hmf : ∀ (fn : Fn) (first cap : Array Value) (w : World), (Instr.makeFunc fn first cap).run Tryd.prog w = .ok (.func fn first cap) w := fun _ _ _ _ => rfl
        obtain ⟨W3, hW3⟩ : ∃ W3, (W2.alloc (Obj.cells #[Value.int IntKind.i64 0, Value.int IntKind.i64 0, Value.int IntKind.i64 0, Value.slice none 0 0] 100)) = W3 := ⟨_, rfl⟩
        have h3p := heap_alloc_new W2 (Obj.cells #[Value.int IntKind.i64 0, Value.int IntKind.i64 0, Value.int IntKind.i64 0, Value.slice none 0 0] 100)
        have h3b : Below W2.heap.size W2 (W2.alloc (Obj.cells #[Value.int IntKind.i64 0, Value.int IntKind.i64 0, Value.int IntKind.i64 0, Value.slice none 0 0] 100)) := (Below.refl _ W2).alloc (Nat.le_refl _) _
        have h3z : (W2.alloc (Obj.cells #[Value.int IntKind.i64 0, Value.int IntKind.i64 0, Value.int IntKind.i64 0, Value.slice none 0 0] 100)).heap.size = W2.heap.size + 1 := by simp
        rw [hW3] at h3p h3b h3z
        have h4m := heap_alloc_new W3 (.map #[] 0)
        have h4b : Below W2.heap.size W2 (W3.alloc (.map #[] 0)) := h3b.alloc h3b.size _
        have h4p := (Below.heap_alloc W3 (.map #[] 0) W2.heap.size (by omega)).trans h3p
        obtain ⟨W4, hW4⟩ : ∃ W4, W3.alloc (.map #[] 0) = W4 := ⟨_, rfl⟩
        rw [hW4, h3z] at h4m
        rw [hW4] at h4b h4p
        obtain ⟨W5, e5, h5m, g5⟩ := mapIns W4 (W2.heap.size + 1) #[] 0 98 (.func (Fn.func 54) #[.pointer (some ⟨W2.heap.size, 0, none⟩)] #[]) h4m rfl
        obtain ⟨W6, e6, h6m, g6⟩ := mapIns W5 (W2.heap.size + 1) _ 1 111 (.func (Fn.func 55) #[.pointer (some ⟨W2.heap.size, 0, none⟩)] #[]) h5m rfl
        obtain ⟨W7, e7, h7m, g7⟩ := mapIns W6 (W2.heap.size + 1) _ 2 36 (.func (Fn.func 56) #[.pointer (some ⟨W2.heap.size, 0, none⟩)] #[]) h6m rfl
        replace h7m : W7.heap[W2.heap.size + 1]? = some (.map (doesMap W2.heap.size) 3) := h7m
        have hzz : W2.heap.size < W4.heap.size := (Array.getElem?_eq_some_iff.1 h4p).1
        have h5p := (g5.block W2.heap.size hzz (by simp)).trans h4p
        have h6p := (g6.block W2.heap.size (Nat.lt_of_lt_of_le hzz g5.size) (by simp)).trans h5p
        have h7p := (g7.block W2.heap.size (Nat.lt_of_lt_of_le hzz (Nat.le_trans g5.size g6.size)) (by simp)).trans h6p
        have h5b := below_grown1 h4b g5 (Nat.le_succ _) h4b.size
        have h6b := below_grown1 h5b g6 (Nat.le_succ _) h5b.size
        have h7b := below_grown1 h6b g7 (Nat.le_succ _) h6b.size
        clear h4m h4b h4p h5m h6m g5 g6 g7 h5p h6p h5b h6b hzz h3p h3b
        go_wp2_with fail
        clear e5 e6 e7 hW3 hW4 h3z hmm hmf
        go_loopw [53] (fun i wr => ∃ (k : Nat) (p : Pen) (vo : Value), k ≤ its.length ∧ i = .int .i64 k ∧ penAll (its.take k) pen0 = some p ∧ wr.heap[W2.heap.size]? = some (Obj.cells #[.int .i64 p.x, .int .i64 p.y, .int .i64 p.many, vo] 100 (0, 0)) ∧
          wr.ownsRow (W2.heap.size + 1) 89 2 vo p.out.length (ceCells p.out) ∧ wr.heap[W2.heap.size + 1]? = some (.map (doesMap W2.heap.size) 3) ∧ Below W2.heap.size W2 wr) (fun i _ => its.length - (intOf i).toNat)
        case atStart => exact ⟨0, pen0, .slice none 0 0, Nat.zero_le _, rfl, rfl, h7p, World.ownsRow_nil _ _ _ _, h7m, h7b⟩
        case round =>
          clear h7p h7m h7b
          obtain ⟨k, p, vo, hk, rfl, hpa, hp, hown, hmp, hbx⟩ := hrel
          have hpi := pen_inv (its.take k) pen0 p (fun x hx => (HEA.out x (List.mem_of_mem_take hx)).1) pen0_inv hpa
          have HP := mkHid hpa
          clear hpa
          obtain ⟨px, py, pm, po⟩ := p
          obtain ⟨h2, h3, h4, h5, h6, h7⟩ := hpi
          dsimp only at h2 h3 h4 h5 h6 h7 hown hp
          subst h6
          by_cases hlt : k < its.length
          · obtain ⟨b, o, rfl, hbs, q0, q1, q2⟩ := HC.out k hlt
            have p0 := (hbx.cell (p := ⟨b, o + k * 3, none⟩) hbs).trans q0
            have p1 := (hbx.cell (p := ⟨b, o + k * 3 + 1, none⟩) hbs).trans q1
            have p2 := (hbx.cell (p := ⟨b, o + k * 3 + 2, none⟩) hbs).trans q2
            have HR := Lib.hid (penRun_at hlt HP.out)
            obtain ⟨hzv, hz3, hz4⟩ := HEA.out its[k] (List.getElem_mem hlt)
            obtain ⟨⟨z1, z2, z3⟩, hz⟩ : ∃ z, its[k] = z := ⟨_, rfl⟩
            have HTZ := mkHid hz
            rw [hz] at p0 p1 p2 HR hzv hz3 hz4
            dsimp only at p0 p1 p2 hz3 hz4
            obtain ⟨htg, hn1, hn2⟩ := hzv
            unfold maxCoord at hn2
            dsimp only at htg hn1 hn2
            clear hz q0 q1 q2
            have hlt' : (k : Int) < its.length := by omega
            have hcA := heap_alloc_new wr (Obj.cells #[Value.int IntKind.u8 z1.toNat, Value.int IntKind.i64 z2, Value.int IntKind.i64 z3] 37)
            have hpl : W2.heap.size < wr.heap.size := (Array.getElem?_eq_some_iff.1 hp).1
            have hml : W2.heap.size + 1 < wr.heap.size := (Array.getElem?_eq_some_iff.1 hmp).1
            have hpA := (Below.heap_alloc wr (Obj.cells #[Value.int IntKind.u8 z1.toNat, Value.int IntKind.i64 z2, Value.int IntKind.i64 z3] 37) _ hpl).trans hp
            have hmA := (Below.heap_alloc wr (Obj.cells #[Value.int IntKind.u8 z1.toNat, Value.int IntKind.i64 z2, Value.int IntKind.i64 z3] 37) _ hml).trans hmp
            have hownA := hown.alloc (Obj.cells #[Value.int IntKind.u8 z1.toNat, Value.int IntKind.i64 z2, Value.int IntKind.i64 z3] 37)
            have hbA := hbx.alloc hbx.size (Obj.cells #[Value.int IntKind.u8 z1.toNat, Value.int IntKind.i64 z2, Value.int IntKind.i64 z3] 37)
            have hvc := owns_not hown wr.heap.size (.inr (Nat.le_refl _))
            have hvm := owns_no_map hown hmp
            go_upto_region 14 with fail
            clear hown hbx hp hmp p0 p1 p2
            generalize (wr.alloc (Obj.cells #[Value.int IntKind.u8 z1.toNat, Value.int IntKind.i64 z2, Value.int IntKind.i64 z3] 37)) = W at *
            generalize wr.heap.size = cb at *
            obtain ⟨⟨c0, c1, c2⟩, ⟨f0, f1, f2⟩⟩ := three_any _ _ _ _ _ _ hcA
            rcases pen_tags htg with rfl | rfl | rfl
            · have hlk := mapLook W (W2.heap.size + 1) (doesMap W2.heap.size) 3 98 (.func (Fn.func 54) #[.pointer (some ⟨W2.heap.size, 0, none⟩)] #[]) 0 hmA rfl
              have hlk2 : (((98 : UInt8).toNat : Nat) : Int) = 98 := rfl
              rw [hlk2] at c0
              go_wp2_with fail
              clear hlk c0 c1 c2 f0 f1 f2
              refine (pskip_any W2.heap.size px py po.length z2 vo W hpA ⟨h2, h3⟩ ⟨by omega, hn2⟩).mono ?_
              rintro e w' ⟨rfl, hp', hg⟩
              replace hmA := (hg.block _ (Array.getElem?_eq_some_iff.1 hmA).1 (by simp)).trans hmA
              replace hcA := (hg.block _ (Array.getElem?_eq_some_iff.1 hcA).1 (by intro e; cases e; omega)).trans hcA
              replace hownA := owns_grown hownA hg (Nat.lt_succ_self _)
              replace hbA := below_grown1 hbA hg (Nat.le_refl _) hbA.size
              clear hpA
              have hpA := hp'
              clear hp' hg hvc hvm
              generalize w' = W at *

              have hc2 : W.heap[cb]? = _ := hcA
              obtain ⟨⟨c0, c1, c2⟩, ⟨f0, f1, f2⟩⟩ := three_any _ _ _ _ _ _ hc2
              go_wp2_with fail
              refine (pwrong_any W2.heap.size ⟨px + z2, py, po.length, po⟩ vo W hpA).mono ?_
              rintro e w' ⟨rfl, hw'⟩
              rw [hw']
              clear hw' w'
              obtain ⟨E, hE⟩ : ∃ E, penErr ⟨px + z2, py, po.length, po⟩ = E := ⟨_, rfl⟩
              rw [hE]
              have HE : Hid (penErr (penDo ⟨px, py, po.length, po⟩ 98 z2) = E) := mkHid hE
              clear hE
              by_cases hez : E = 0
              · have heb2 : (E != 0) = false := by rw [hez]; rfl
                have HAK : Hid (penAll (its.take (k + 1)) pen0 = some ⟨px + z2, py, po.length, po⟩) := mkHid (by
                  have := penAll_succ hlt HP.out (by rw [HTZ.out]; exact HE.out.trans hez)
                  rw [HTZ.out] at this
                  exact this)
                go_wp2_with fail
                exact ⟨⟨k + 1, ⟨px + z2, py, po.length, po⟩, vo, by omega, by simp, HAK.out, hpA, hownA, hmA, hbA⟩, by simp [intOf]; omega⟩
              · have heb2 : (E != 0) = true := by simpa using hez
                have HZ : Hid (parseP l = ([], E, (a : Int) + z3)) := mkHid (by rw [HX.out]; exact body_bad HLX.out (by rw [HR.out, if_neg (by rw [HE.out]; exact hez), HE.out]) hez)
                clear hownA
                go_wp2_with fail
                go_quiet (fail)
                go_wp2_with fail
                go_ret3
                exact parsePost_mk HZ.out (World.ownsRow_nil _ _ _ _) (below_drewN (hb2.trans (hbA.mono hb2.size)) _)
            · have hlk := mapLook W (W2.heap.size + 1) (doesMap W2.heap.size) 3 36 (.func (Fn.func 56) #[.pointer (some ⟨W2.heap.size, 0, none⟩)] #[]) 2 hmA rfl
              have hlk2 : (((36 : UInt8).toNat : Nat) : Int) = 36 := rfl
              rw [hlk2] at c0
              go_wp2_with fail
              clear hlk c0 c1 c2 f0 f1 f2
              refine (pdown_any W2.heap.size px py po.length z2 vo W hpA ⟨h4, h5⟩ ⟨by omega, hn2⟩).mono ?_
              rintro e w' ⟨rfl, hp', hg⟩
              replace hmA := (hg.block _ (Array.getElem?_eq_some_iff.1 hmA).1 (by simp)).trans hmA
              replace hcA := (hg.block _ (Array.getElem?_eq_some_iff.1 hcA).1 (by intro e; cases e; omega)).trans hcA
              replace hownA := owns_grown hownA hg (Nat.lt_succ_self _)
              replace hbA := below_grown1 hbA hg (Nat.le_refl _) hbA.size
              clear hpA
              have hpA := hp'
              clear hp' hg hvc hvm
              generalize w' = W at *

              have hc2 : W.heap[cb]? = _ := hcA
              obtain ⟨⟨c0, c1, c2⟩, ⟨f0, f1, f2⟩⟩ := three_any _ _ _ _ _ _ hc2
              go_wp2_with fail
              refine (pwrong_any W2.heap.size ⟨0, py + z2, po.length, po⟩ vo W hpA).mono ?_
              rintro e w' ⟨rfl, hw'⟩
              rw [hw']
              clear hw' w'
              obtain ⟨E, hE⟩ : ∃ E, penErr ⟨0, py + z2, po.length, po⟩ = E := ⟨_, rfl⟩
              rw [hE]
              have HE : Hid (penErr (penDo ⟨px, py, po.length, po⟩ 36 z2) = E) := mkHid hE
              clear hE
              by_cases hez : E = 0
              · have heb2 : (E != 0) = false := by rw [hez]; rfl
                have HAK : Hid (penAll (its.take (k + 1)) pen0 = some ⟨0, py + z2, po.length, po⟩) := mkHid (by
                  have := penAll_succ hlt HP.out (by rw [HTZ.out]; exact HE.out.trans hez)
                  rw [HTZ.out] at this
                  exact this)
                go_wp2_with fail
                exact ⟨⟨k + 1, ⟨0, py + z2, po.length, po⟩, vo, by omega, by simp, HAK.out, hpA, hownA, hmA, hbA⟩, by simp [intOf]; omega⟩
              · have heb2 : (E != 0) = true := by simpa using hez
                have HZ : Hid (parseP l = ([], E, (a : Int) + z3)) := mkHid (by rw [HX.out]; exact body_bad HLX.out (by rw [HR.out, if_neg (by rw [HE.out]; exact hez), HE.out]) hez)
                clear hownA
                go_wp2_with fail
                go_quiet (fail)
                go_wp2_with fail
                go_ret3
                exact parsePost_mk HZ.out (World.ownsRow_nil _ _ _ _) (below_drewN (hb2.trans (hbA.mono hb2.size)) _)
            · have hlk := mapLook W (W2.heap.size + 1) (doesMap W2.heap.size) 3 111 (.func (Fn.func 55) #[.pointer (some ⟨W2.heap.size, 0, none⟩)] #[]) 1 hmA rfl
              have hlk2 : (((111 : UInt8).toNat : Nat) : Int) = 111 := rfl
              rw [hlk2] at c0
              go_wp2_with fail
              clear hlk c0 c1 c2 f0 f1 f2
              refine (pdraw_any W2.heap.size px py po.length z2 po vo W hpA hownA ⟨h2, h3⟩ rfl h7 ⟨hn1, hn2⟩).mono ?_
              rintro e w' ⟨rfl, o2, vo2, hp', hown', hkw, ho2⟩
              have HO2 := mkHid ho2
              replace hmA := (hkw.far (Array.getElem?_eq_some_iff.1 hmA).1 (by omega) hvm).1.trans hmA
              replace hcA := (hkw.far (Array.getElem?_eq_some_iff.1 hcA).1 (by omega) hvc).1.trans hcA
              replace hbA := hbA.trans (hkw.below (by have := hbA.size; omega) (fun k hk => (hownA.lt k hk).1))
              clear hpA hownA ho2 hkw hvc hvm
              have hpA := hp'
              have hownA := hown'
              clear hp' hown'
              generalize w' = W at *
              generalize vo2 = vo at *

              have hc2 : W.heap[cb]? = _ := hcA
              obtain ⟨⟨c0, c1, c2⟩, ⟨f0, f1, f2⟩⟩ := three_any _ _ _ _ _ _ hc2
              go_wp2_with fail
              refine (pwrong_any W2.heap.size ⟨px + z2, py, po.length + z2, o2⟩ vo W hpA).mono ?_
              rintro e w' ⟨rfl, hw'⟩
              rw [hw']
              clear hw' w'
              obtain ⟨E, hE⟩ : ∃ E, penErr ⟨px + z2, py, po.length + z2, o2⟩ = E := ⟨_, rfl⟩
              rw [hE]
              have HE : Hid (penErr (penDo ⟨px, py, po.length, po⟩ 111 z2) = E) := mkHid hE
              clear hE
              by_cases hez : E = 0
              · have heb2 : (E != 0) = false := by rw [hez]; rfl
                have HAK : Hid (penAll (its.take (k + 1)) pen0 = some ⟨px + z2, py, po.length + z2, po ++ rowOf px py z2.toNat⟩) := mkHid (by
                  have := penAll_succ hlt HP.out (by rw [HTZ.out]; exact HE.out.trans hez)
                  rw [HTZ.out] at this
                  exact this)
                have HOE : Hid (o2 = po ++ rowOf px py z2.toNat) := mkHid (by
                  obtain ⟨t1, t2, t3⟩ := penErr_zero (HE.out.trans hez)
                  have t1' : px + z2 ≤ maxCoord := t1
                  have t3' : (po.length : Int) + z2 ≤ 2000 := t3
                  unfold maxCoord at t1'
                  exact HO2.out t3' t1')
                rw [HOE.out] at hownA
                go_wp2_with fail
                exact ⟨⟨k + 1, ⟨px + z2, py, po.length + z2, po ++ rowOf px py z2.toNat⟩, vo, by omega, by simp, HAK.out, hpA, hownA, hmA, hbA⟩, by simp [intOf]; omega⟩
              · have heb2 : (E != 0) = true := by simpa using hez
                have HZ : Hid (parseP l = ([], E, (a : Int) + z3)) := mkHid (by rw [HX.out]; exact body_bad HLX.out (by rw [HR.out, if_neg (by rw [HE.out]; exact hez), HE.out]) hez)
                clear hownA
                go_wp2_with fail
                go_quiet (fail)
                go_wp2_with fail
                go_ret3
                exact parsePost_mk HZ.out (World.ownsRow_nil _ _ _ _) (below_drewN (hb2.trans (hbA.mono hb2.size)) _)
          · have hkl : k = its.length := by omega
            subst hkl
            have HZ : Hid (parseP l = (po, 0, 0)) := mkHid (by
              have := HP.out
              rw [List.take_length] at this
              rw [HX.out]; exact body_good HLX.out (penRun_all _ _ _ this))
            have hlt' : ¬ ((its.length : Nat) : Int) < its.length := by omega
            obtain ⟨⟨c0, c1, c2, c3⟩, ⟨f0, f1, f2, f3⟩⟩ := four_any _ _ _ _ _ _ _ hp
            go_wp2_with fail
            go_ret3
            exact parsePost_mk HZ.out (owns_lower hown (Nat.le_trans hb2.size (Nat.le_succ _))) (hb2.trans (hbx.mono hb2.size))
      · have heb : (e1 != 0) = true := by simpa using he
        have HZ : Hid (parseP l = ([], e1, (a : Int) + pl)) := mkHid (by rw [HX.out]; unfold bodyP; rw [HLE.out]; dsimp only; rw [if_neg he])
        clear hle hlx he
        go_wp2_with fail
        go_ret3
        exact parsePost_mk HZ.out (World.ownsRow_nil _ _ _ _) hb2
end Go.Proofs.YtnpndkmcgpaibaaDoor
