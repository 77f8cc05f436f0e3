/- RleForth walked. -/
import Derived.Test.YtnpndkmcgpaibaaDoorDE
set_option linter.unusedVariables false
namespace Go.Proofs.YtnpndkmcgpaibaaDoor
open Go.RowKit Go.Sort
attribute [local go_sem high] eqA89

/-- what was parsed: printed, and parsed again -/
theorem parsed_back {x : List UInt8} (h : (parseP x).2.1 = 0) : (parseP x).2.2 = 0 ∧ rightB (parseP x).1 = true ∧ printOf (parseP x).1 = ((printOf (parseP x).1).1, 0) ∧
    shiftP (parseP x).1 (-boxX (parseP x).1) (-boxY (parseP x).1) = (homeOf (parseP x).1, 0) ∧ ((printOf (parseP x).1).1.length ≤ 20000 → parseP (printOf (parseP x).1).1 = (homeOf (parseP x).1, 0, 0)) := by
  obtain ⟨h0, h1, h2, h3⟩ := (parse_facts x).1 h
  have hr := parse_right h
  generalize (parseP x).1 = l at *
  have hWH : boxW l ≤ maxCoord ∧ boxH l ≤ maxCoord + 1 := by
    by_cases hne : l = []
    · subst hne; exact ⟨by decide, by decide⟩
    · have := box_bounds hr 0 1099511627775 0 1099511627776 (fun c hc => by have := h3 c hc; omega) hne
      unfold maxCoord; omega
  exact ⟨h0, hr, by unfold printOf; rw [if_pos hr], shift_home hr hWH.1 hWH.2, fun hl => parse_print hr hWH.1 hWH.2 hl⟩

set_option maxHeartbeats 16000000 in
set_option maxRecDepth 100000 in
theorem rforth_walk (s m : List UInt8) (rv : Value) (raw : List (Int × Int)) (far c : Int) (w : World) (hg : Good5 w) (hr : RawRow w rv raw)
    (hs : s.length ≤ 140737488351232) (hm : m.length ≤ 140737488351232) (hrl : raw.length ≤ 140737488351232)
    (hf0 : -9223372036854775808 ≤ far) (hf1 : far ≤ 9223372036854775807) (hc0 : -9223372036854775808 ≤ c) (hc1 : c ≤ 9223372036854775807) :
    Calls Tryd.prog 10 #[.string (S s), rv, .int .i64 far, .int .i64 c, .string (S m)] w fun e w' => e = .returned (.bool true) ∧ Below w.heap.size w w' := by
  have hs4 := hg.size
  go_enter Tryd.func10, Tryd.ntmps10
  go_wp2_with fail
  refine (awake5_walk _ hg).mono ?_
  rintro e w1 ⟨rfl, hb1⟩
  go_wp2_with fail
  refine (far_walk _ raw far _ (by omega) (hr.below hb1) hf0 hf1).mono ?_
  rintro e w2 ⟨lv, rfl, ho, hb2⟩
  replace hb2 := hb1.trans (hb2.mono hb1.size)
  have hln := farP_len raw far
  have hlr := crow_of_owns ho
  obtain ⟨la, lcap, rfl⟩ := owns_slice ho
  clear hr ho hb1
  generalize farP raw far = l at *
  go_wp2_with fail
  refine (print_walk _ l w2 (by omega) (hg.below hb2 hs4).1 hlr).mono ?_
  rintro e w3 ⟨rfl, hb3⟩
  replace hb3 := hb2.trans (hb3.mono hb2.size)
  have htl := print_len l
  generalize (printOf l).1 = t at *
  generalize (printOf l).2 = te at *
  have hts := S_size t
  have hms := S_size m
  have hss := S_size s
  clear hlr hb2
  go_wp2_with fail
  refine (pick26_any _ _ _ (by omega) (by omega) (by omega) (by omega)).mono ?_
  rintro e w' ⟨rfl, rfl⟩
  have k0 := pickI_nonneg c (n := (t.length : Int) + 1) (by omega)
  have k1 := pickI_lt c (n := (t.length : Int) + 1) (by omega)
  obtain ⟨k, hk⟩ : ∃ k : Nat, pickI c ((t.length : Int) + 1) = k := ⟨_, (Int.toNat_of_nonneg k0).symm⟩
  rw [hk] at k0 k1 ⊢
  have hkt : k ≤ t.length := by omega
  clear hk k0 k1
  have hkt' : (k : Int) ≤ t.length := by omega
  have htl' : (t.length : Int) ≤ 3000 := by omega
  have hml' : (m.length : Int) ≤ 140737488351232 := by omega
  have hsl' : (s.length : Int) ≤ 140737488351232 := by omega
  go_wp2_with fail
  go_region
  have hw4 : Below w3.heap.size w3 ((w3.alloc (Obj.cells #[Value.string (S s), Value.string ({ data := #[120, 32, 61, 32, 49, 44, 32, 121, 32, 61, 32, 49, 10] } ++ S s), Value.string ((S t).extract 0 k ++ S m ++ (S t).extract k t.length), Value.string ((S t).extract 0 k ++ S m ++ (S t).extract (min ((k : Int) + m.length) t.length).toNat t.length)] 9)).drew) := ((Below.refl _ w3).alloc (Nat.le_refl _) _).drew
  obtain ⟨xs, hxsl, hxb, hxc⟩ : ∃ xs : List (List UInt8), xs.length = 4 ∧ (∀ x ∈ xs, x.length ≤ 562949953421312) ∧ ∀ i (h : i < xs.length), ((w3.alloc (Obj.cells #[Value.string (S s), Value.string ({ data := #[120, 32, 61, 32, 49, 44, 32, 121, 32, 61, 32, 49, 10] } ++ S s), Value.string ((S t).extract 0 k ++ S m ++ (S t).extract k t.length), Value.string ((S t).extract 0 k ++ S m ++ (S t).extract (min ((k : Int) + m.length) t.length).toNat t.length)] 9)).drew).cell? ⟨w3.heap.size, i, none⟩ = some (.string (S xs[i])) := by
    rw [show (⟨#[120, 32, 61, 32, 49, 44, 32, 121, 32, 61, 32, 49, 10]⟩ : ByteArray) = S [120, 32, 61, 32, 49, 44, 32, 121, 32, 61, 32, 49, 10] from rfl]
    simp only [S_extract, S_append]
    refine ⟨[s, [120, 32, 61, 32, 49, 44, 32, 121, 32, 61, 32, 49, 10] ++ s, (List.take k t).drop 0 ++ m ++ (t.take t.length).drop k, (List.take k t).drop 0 ++ m ++ (t.take t.length).drop (min ((k : Int) + m.length) t.length).toNat], rfl, ?_, ?_⟩
    · intro x hx
      simp only [List.mem_cons, List.mem_nil_iff, or_false] at hx
      rcases hx with rfl | rfl | rfl | rfl <;> (try simp only [List.length_append, List.length_drop, List.length_take, List.length_cons, List.length_nil]) <;> omega
    · intro i hi
      simp only [List.length_cons, List.length_nil] at hi
      have : i = 0 ∨ i = 1 ∨ i = 2 ∨ i = 3 := by omega
      have key := fun j u hj => new_cells w3 (([s, [120, 32, 61, 32, 49, 44, 32, 121, 32, 61, 32, 49, 10] ++ s, (List.take k t).drop 0 ++ m ++ (t.take t.length).drop k, (List.take k t).drop 0 ++ m ++ (t.take t.length).drop (min ((k : Int) + m.length) t.length).toNat]).map fun x => Value.string (S x)) 9 j u hj
      simp only [Addr.add, Nat.zero_add, List.map_cons, List.map_nil] at key
      rcases this with rfl | rfl | rfl | rfl
      · exact key 0 _ rfl
      · exact key 1 _ rfl
      · exact key 2 _ rfl
      · exact key 3 _ rfl
  have hl4 : w3.heap.size < ((w3.alloc (Obj.cells #[Value.string (S s), Value.string ({ data := #[120, 32, 61, 32, 49, 44, 32, 121, 32, 61, 32, 49, 10] } ++ S s), Value.string ((S t).extract 0 k ++ S m ++ (S t).extract k t.length), Value.string ((S t).extract 0 k ++ S m ++ (S t).extract (min ((k : Int) + m.length) t.length).toNat t.length)] 9)).drew).heap.size := by show _ < (w3.heap.push _).size; rw [Array.size_push]; omega
  generalize ((w3.alloc (Obj.cells #[Value.string (S s), Value.string ({ data := #[120, 32, 61, 32, 49, 44, 32, 121, 32, 61, 32, 49, 10] } ++ S s), Value.string ((S t).extract 0 k ++ S m ++ (S t).extract k t.length), Value.string ((S t).extract 0 k ++ S m ++ (S t).extract (min ((k : Int) + m.length) t.length).toNat t.length)] 9)).drew) = w5 at hw4 hxc hl4 ⊢
  have hb15 := hb3.trans (hw4.mono hb3.size)
  have hg5 : Good5 w5 := hg.below hb15 hs4
  have hs45 := hg5.size
  have HXC := Lib.hid hxc
  have HXB := Lib.hid hxb
  clear hxc hxb hw4 hb3 hts hms hss
  go_wp2_with fail
  go_loopw [71] (fun i wr => ∃ n : Nat, n ≤ 4 ∧ i = .int .i64 n ∧ Below w5.heap.size w5 wr) (fun i _ => 4 - (intOf i).toNat)
  case atStart => exact ⟨0, by omega, rfl, Below.refl _ _⟩
  case round =>
    obtain ⟨n, hn4, rfl, hbr⟩ := hrel
    by_cases hlt : n < 4
    · have hp := (hbr.cell (p := ⟨w3.heap.size, n, none⟩) hl4).trans (HXC.out n (by omega))
      have hxl := HXB.out xs[n] (List.getElem_mem (by omega))
      generalize xs[n] = x at hp hxl
      have hlt' : (n : Int) < 4 := by omega
      have hgr : Good5 wr := hg5.below hbr hs45
      have hxz := S_size x
      go_wp2_with fail
      refine (parse_walk x wr (by omega) hgr.2 (by have := hgr.size; omega)).mono ?_
      rintro e w6 ⟨va, rfl, ho6, hb6⟩
      replace hb6 := hbr.trans (hb6.mono hbr.size)
      have hr6 := crow_of_owns ho6
      obtain ⟨aa, acap, rfl⟩ := owns_slice ho6
      have hpl := parse_len x
      clear ho6 hbr hp hgr
      by_cases he : (parseP x).2.1 = 0
      · obtain ⟨g1, g2, g3, g4, g5⟩ := parsed_back he
        rw [he, g1]
        have hbx := box_in g2
        have hl2 := right_len g2
        have htl2 := print_len (parseP x).1
        have G2 := mkHid g2
        have G3 := mkHid g3
        have G4 := mkHid g4
        have G5 := mkHid g5
        clear g1 g2 g3 g4 g5 he
        generalize (parseP x).1 = y at *
        obtain ⟨⟨bx0, bx1⟩, ⟨by0, by1⟩⟩ := hbx
        have heb : ((0 : Int) != 0) = false := rfl
        go_wp2_with fail
        refine (rbox_walk _ y _ (by omega) hr6).mono ?_
        rintro e w7 ⟨rfl, hb7⟩
        have hr7 := hr6.below hb7
        replace hb7 := hb6.trans (hb7.mono hb6.size)
        have HBX : Hid (boxV (boxOf y) = .tuple #[.agg #[.int .i64 (boxX y), .int .i64 (boxY y), .int .i64 (boxW y), .int .i64 (boxH y)], .bool (boxOf y).2]) := mkHid rfl
        rw [HBX.out]
        clear HBX hr6 hb6
        generalize (boxOf y).2 = bf
        generalize boxX y = bx at *
        generalize boxY y = by_ at *
        generalize boxW y = bw at *
        generalize boxH y = bh at *
        have hn4' := heap_alloc_new w7 (Obj.cells #[Value.int IntKind.i64 bx, Value.int IntKind.i64 by_, Value.int IntKind.i64 bw, Value.int IntKind.i64 bh] 53)
        have hbA : Below w7.heap.size w7 (w7.alloc (Obj.cells #[Value.int IntKind.i64 bx, Value.int IntKind.i64 by_, Value.int IntKind.i64 bw, Value.int IntKind.i64 bh] 53)) := (Below.refl _ w7).alloc (Nat.le_refl _) _
        obtain ⟨⟨c0, c1, c2, c3⟩, ⟨f0, f1, f2, f3⟩⟩ := four _ _ _ _ _ _ hn4'
        go_wp2_with fail
        have hr8 := hr7.below hbA
        have hb8 := hb7.trans (hbA.mono hb7.size)
        clear hr7 hb7 hbA hn4' c0 c1 c2 c3 f0 f1 f2 f3
        generalize (w7.alloc (Obj.cells #[Value.int IntKind.i64 bx, Value.int IntKind.i64 by_, Value.int IntKind.i64 bw, Value.int IntKind.i64 bh] 53)) = w8 at *
        refine (shift_walk _ y (-bx) (-by_) w8 (by omega) hr8 (by omega) (by omega) (by omega) (by omega)).mono ?_
        rintro e w9 ⟨wv, rfl, how, hb9⟩
        rw [G4.out] at how ⊢
        have hw9 := crow_of_owns how
        have hr9 := hr8.below hb9
        replace hb9 := hb8.trans (hb9.mono hb8.size)
        clear how hr8 hb8
        go_wp2_with fail
        refine (print_call _ y w9 (by omega) (hg5.below hb9 hs45) hr9 G3.out).mono ?_
        rintro e w10 ⟨rfl, hb10⟩
        have hr10 := hr9.below hb10
        have hw10 := hw9.below hb10
        replace hb10 := hb9.trans (hb10.mono hb9.size)
        have huz := S_size (printOf y).1
        generalize (printOf y).1 = u at *
        clear hr9 hw9 hb9
        have hg10 := hg5.below hb10 hs45
        go_wp2_with fail
        refine (parse_walk u w10 (by omega) hg10.2 (by have := hg10.size; omega)).mono ?_
        rintro e w11 ⟨mv, rfl, hom, hb11⟩
        have hm11 := crow_of_owns hom
        have hr11 := hr10.below hb11
        have hw11 := hw10.below hb11
        replace hb11 := hb10.trans (hb11.mono hb10.size)
        clear hom hr10 hw10 hb10 hg10
        have hhl : (homeOf y).length ≤ 4611686018427387904 := by unfold homeOf; rw [List.length_map]; omega
        by_cases hul : u.length ≤ 20000
        · rw [G5.out hul] at hm11 ⊢
          have hul' : (u.length : Int) ≤ 20000 := by omega
          go_wp2_with fail
          refine (rright_walk _ y _ (by omega) hr11).mono ?_
          rintro e w12 ⟨rfl, hb12⟩
          rw [G2.out]
          have hw12 := hw11.below hb12
          have hm12 := hm11.below hb12
          replace hb12 := hb11.trans (hb12.mono hb11.size)
          go_wp2_with fail
          refine (csame_walk _ _ _ _ _ hhl hhl hm12 hw12).mono ?_
          rintro e w13 ⟨rfl, nn, rfl⟩
          have hb13 := below_drewN hb12 nn
          go_wp2_with fail
          exact ⟨⟨n + 1, by omega, by simp, hb13⟩, by simp [intOf]; omega⟩
        · have hul' : ¬ (u.length : Int) ≤ 20000 := by omega
          go_wp2_with fail
          refine (rright_walk _ y _ (by omega) hr11).mono ?_
          rintro e w12 ⟨rfl, hb12⟩
          rw [G2.out]
          replace hb12 := hb11.trans (hb12.mono hb11.size)
          go_wp2_with fail
          exact ⟨⟨n + 1, by omega, by simp, hb12⟩, by simp [intOf]; omega⟩
      · obtain ⟨g1, g2, g3⟩ := (parse_facts x).2 he
        have heb : ((parseP x).2.1 != 0) = true := by simpa using he
        rw [g1] at hr6 ⊢
        clear he g1 hr6
        generalize (parseP x).2.1 = e1 at *
        generalize (parseP x).2.2 = p1 at *
        go_wp2_with fail
        exact ⟨⟨n + 1, by omega, by simp, hb6⟩, by simp [intOf]; omega⟩
    · have hn5 : n = 4 := by omega
      subst hn5
      have hb17 := hb15.trans (hbr.mono hb15.size)
      go_wp2_with fail
      go_ret
      exact ⟨rfl, hb17⟩
end Go.Proofs.YtnpndkmcgpaibaaDoor
