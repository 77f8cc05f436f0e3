/- RleTells walked. -/
import Derived.Test.YtnpndkmcgpaibaaDoorDA
import Derived.BigRegion
set_option linter.unusedVariables false
namespace Go.Proofs.YtnpndkmcgpaibaaDoor
open Go.RowKit Go.Sort
attribute [local go_sem high] eqA89

theorem prItems_len {l : List (Int × Int)} (hr : rightB l = true) : (itemsOf l).length ≤ 3 * l.length := by
  have := (prFold_bnd hr (box_in hr).1 (box_in hr).2 l.length (Nat.le_refl _)).len
  rw [List.take_length] at this
  exact this
theorem print_len (l : List (Int × Int)) : (printOf l).1.length ≤ 42 * l.length + 100 := by
  by_cases hr : rightB l = true
  · have h1 := prItems_len hr
    have h2 := text_len (itemsOf l)
    obtain ⟨s0, s1, s2, s3⟩ := box_small hr
    have h3 := dec_len (boxW l).toNat 18 (by omega)
    have h4 := dec_len (boxH l).toNat 18 (by omega)
    unfold printOf
    rw [if_pos hr]
    unfold headText
    simp only [List.length_append, List.length_cons, List.length_nil, show xEq.length = 4 from rfl, show yEq.length = 6 from rfl, show ruleS.length = 15 from rfl]
    omega
  · unfold printOf; rw [if_neg hr]; simp
theorem crow_take {w : World} {a : Option Addr} {cap : Nat} {l : List (Int × Int)} (h : CRow w (.slice a l.length cap) l) (n : Nat) (hn : n ≤ l.length) : CRow w (.slice a n cap) (l.take n) := by
  obtain ⟨a', cap', he, hc⟩ := h
  cases he
  refine ⟨a, cap, by rw [List.length_take, Nat.min_eq_left hn], fun i hi => ?_⟩
  rw [List.length_take] at hi
  obtain ⟨b, o, h1, h2, h3, h4⟩ := hc i (by omega)
  exact ⟨b, o, h1, h2, by rw [List.getElem_take]; exact h3, by rw [List.getElem_take]; exact h4⟩

theorem parse_len (x : List UInt8) : (parseP x).1.length ≤ 4611686018427387904 := by
  have key : ∀ (its : List It), (∀ z ∈ its, valid z) → ∀ p, PenInv p → (penRun its p).1.length ≤ 2000 := by
    intro its
    induction its with
    | nil => intro _ p hp; exact hp.len
    | cons i r ih =>
      intro hv p hp
      rw [penRun]
      split
      · rename_i h0
        exact ih (fun z hz => hv z (List.mem_cons_of_mem _ hz)) _ (pen_step hp (hv i (List.mem_cons_self ..)) h0)
      · simp
  rw [parseP_eq]
  split
  · simp
  · split
    · unfold bodyP
      split
      · rename_i h0
        split
        · exact Nat.le_trans (key _ (fun z hz => ((lex_facts _).1.each h0 z hz).1) pen0 pen0_inv) (by decide)
        · simp
      · simp
    · simp
set_option maxHeartbeats 16000000 in
set_option maxRecDepth 100000 in
theorem rtells_walk (s m : List UInt8) (a : Option Addr) (cap : Nat) (rv : Value) (any : List (Int × Int)) (raw : List (Int × Int)) (far c : Int) (w : World) (hg : Good5 w) (hv : CRow w (.slice a any.length cap) any) (hcap : any.length ≤ cap) (hr : RawRow w rv raw)
    (hs : s.length ≤ 140737488351232) (hm : m.length ≤ 140737488351232) (hl : any.length ≤ 140737488351232) (hrl : raw.length ≤ 140737488351232)
    (hf0 : -9223372036854775808 ≤ far) (hf1 : far ≤ 9223372036854775807) (hc0 : -9223372036854775808 ≤ c) (hc1 : c ≤ 9223372036854775807) :
    Calls Tryd.prog 8 #[.string (S s), .slice a any.length cap, rv, .int .i64 far, .int .i64 c, .string (S m)] w fun e w' => e = .returned (.bool true) ∧ Below w.heap.size w w' := by
  have hs4 := hg.size
  go_enter Tryd.func8, Tryd.ntmps8
  go_wp2_with fail
  refine (awake5_walk _ hg).mono ?_
  rintro e w1 ⟨rfl, hb1⟩
  go_wp2_with fail
  refine (far_walk _ raw far _ (by omega) (hr.below hb1) hf0 hf1).mono ?_
  rintro e w2 ⟨lv, rfl, ho, hb2⟩
  have hb12 := hb1.trans (hb2.mono hb1.size)
  have hln := farP_len raw far
  have hlr := crow_of_owns ho
  obtain ⟨la, lcap, rfl⟩ := owns_slice ho
  have hxr := hv.below hb12
  clear hv hr ho hb1 hb2
  generalize farP raw far = l at *
  have HXW := Lib.hid hxr
  clear hxr
  by_cases hbig : 100 < any.length
  · have hxr : CRow w2 (.slice a 100 cap) (any.take 100) := crow_take HXW.out 100 (by omega)
    have hxl : (any.take 100).length ≤ 100 := by rw [List.length_take]; omega
    have hbig' : (100 : Int) < any.length := by omega
    have hcap' : (any.length : Int) ≤ cap := by omega
    have hcap2 : (100 : Int) ≤ cap := by omega
    go_wp2_with fail
    clear HXW hbig hbig'
    generalize (Value.slice a 100 cap) = xv at *
    generalize (Value.slice la l.length lcap) = lv at *
    generalize any.take 100 = xl at *

    have hb3 : Below w2.heap.size w2 (w2.alloc (Obj.cells #[lv, xv] 43)) := (Below.refl _ w2).alloc (Nat.le_refl _) _
    have hc3 : ∀ k : Nat, k < 2 → ∃ (yv : Value) (y : List (Int × Int)), (w2.alloc (Obj.cells #[lv, xv] 43)).cell? ⟨w2.heap.size, k, none⟩ = some yv ∧ CRow w2 yv y ∧ y.length ≤ 100 := by
      intro k hk
      have key := fun j u hj => new_cells w2 [lv, xv] 43 j u hj
      simp only [Addr.add, Nat.zero_add] at key
      have : k = 0 ∨ k = 1 := by omega
      rcases this with rfl | rfl
      · exact ⟨lv, l, key 0 _ rfl, hlr, by omega⟩
      · exact ⟨xv, xl, key 1 _ rfl, hxr, hxl⟩
    have hz3 : w2.heap.size < (w2.alloc (Obj.cells #[lv, xv] 43)).heap.size := by simp
    have HC3 := Lib.hid hc3
    clear hc3
    generalize (w2.alloc (Obj.cells #[lv, xv] 43)) = w3 at *
    go_loopw [47] (fun i wr => ∃ n : Nat, n ≤ 2 ∧ i = .int .i64 n ∧ Below w3.heap.size w3 wr) (fun i _ => 2 - (intOf i).toNat)
    case atStart => exact ⟨0, by omega, rfl, Below.refl _ _⟩
    case round =>
      obtain ⟨n, hn, rfl, hbr⟩ := hrel
      by_cases hlt : n < 2
      · obtain ⟨yv, y, hcy, hyr, hyl⟩ := HC3.out n hlt
        have hp := (hbr.cell (p := ⟨w2.heap.size, n, none⟩) hz3).trans hcy
        have hy3 := (hyr.below hb3).below hbr
        have hlt' : (n : Int) < 2 := by omega
        have hgr : Good5 wr := hg.below (hb12.trans ((hb3.trans (hbr.mono hb3.size)).mono hb12.size)) hs4
        clear hcy hyr
        go_wp2_with fail
        refine (print_walk yv y wr (by omega) hgr.1 hy3).mono ?_
        rintro e w5 ⟨rfl, hb5⟩
        have hy5 := hy3.below hb5
        go_wp2_with fail
        refine (rprint_walk yv y w5 (by omega) hy5).mono ?_
        rintro e w6 ⟨rfl, hb6⟩
        have hb56 := hbr.trans (hb5.mono hbr.size)
        have hb57 := hb56.trans (hb6.mono hb56.size)
        clear hy5 hy3 hb5 hb6 hb56 hbr hgr hp
        generalize printOf y = pr at *
        obtain ⟨pt, pe⟩ := pr
        dsimp only at *
        go_wp2_with fail
        exact ⟨⟨n + 1, by omega, by simp, hb57⟩, by simp [intOf]; omega⟩
      · have hn2 : n = 2 := by omega
        subst hn2
        have hbW := hb12.trans ((hb3.trans (hbr.mono hb3.size)).mono hb12.size)
        have hlW := (hlr.below hb3).below hbr
        have hgW : Good5 wr := hg.below hbW hs4
        clear hbr hb3 hb12 HC3 hlr hxr hz3
        generalize wr = w3 at *
        go_wp2_with fail
        refine (rprint_walk lv l w3 (by omega) hlW).mono ?_
        rintro e w4 ⟨rfl, hb4⟩
        have hb14 := hbW.trans (hb4.mono hbW.size)
        have hg4 : Good5 w4 := hg.below hb14 hs4
        have htl := print_len l
        generalize (printOf l).1 = t at *
        generalize (printOf l).2 = te at *
        have hts := S_size t
        have hms := S_size m
        clear hlW hb4 hbW hgW
        generalize w4 = w3 at *
        go_wp2_with fail
        refine (pick26_any _ _ _ (by omega) (by omega) (by omega) (by omega)).mono ?_
        rintro e w' ⟨rfl, rfl⟩
        have k0 := pickI_nonneg c (n := (t.length : Int) + 1) (by omega)
        have k1 := pickI_lt c (n := (t.length : Int) + 1) (by omega)
        obtain ⟨k, hk⟩ : ∃ k : Nat, pickI c ((t.length : Int) + 1) = k := ⟨_, (Int.toNat_of_nonneg k0).symm⟩
        rw [hk] at k0 k1 ⊢
        have hkt : k ≤ t.length := by omega
        clear hk k0 k1
        have hkt' : (k : Int) ≤ t.length := by omega
        have htl' : (t.length : Int) ≤ 3000 := by omega
        have hml' : (m.length : Int) ≤ 140737488351232 := by omega
        go_wp2_with fail
        go_region
        have hw4 : Below w3.heap.size w3 ((w3.alloc (Obj.cells #[Value.string (S s), Value.string (S t), Value.string ((S t).extract 0 k), Value.string ({ data := #[35, 97, 10, 35, 10] } ++ S t), Value.string ((S t).extract 0 k ++ S m ++ (S t).extract k t.length), Value.string ((S t).extract 0 k ++ S m ++ (S t).extract (min ((k : Int) + m.length) t.length).toNat t.length)] 9)).drew) := ((Below.refl _ w3).alloc (Nat.le_refl _) _).drew
        obtain ⟨xs, hxsl, hxb, hxc⟩ : ∃ xs : List (List UInt8), xs.length = 6 ∧ (∀ x ∈ xs, x.length ≤ 562949953421312) ∧ ∀ i (h : i < xs.length), ((w3.alloc (Obj.cells #[Value.string (S s), Value.string (S t), Value.string ((S t).extract 0 k), Value.string ({ data := #[35, 97, 10, 35, 10] } ++ S t), Value.string ((S t).extract 0 k ++ S m ++ (S t).extract k t.length), Value.string ((S t).extract 0 k ++ S m ++ (S t).extract (min ((k : Int) + m.length) t.length).toNat t.length)] 9)).drew).cell? ⟨w3.heap.size, i, none⟩ = some (.string (S xs[i])) := by
          rw [show (⟨#[35, 97, 10, 35, 10]⟩ : ByteArray) = S [35, 97, 10, 35, 10] from rfl]
          simp only [S_extract, S_append]
          refine ⟨[s, t, (List.take k t).drop 0, [35, 97, 10, 35, 10] ++ t, (List.take k t).drop 0 ++ m ++ (t.take t.length).drop k, (List.take k t).drop 0 ++ m ++ (t.take t.length).drop (min ((k : Int) + m.length) t.length).toNat], rfl, ?_, ?_⟩
          · intro x hx
            simp only [List.mem_cons, List.mem_nil_iff, or_false] at hx
            rcases hx with rfl | rfl | rfl | rfl | rfl | rfl <;> (try simp only [List.length_append, List.length_drop, List.length_take, List.length_cons, List.length_nil]) <;> omega
          · intro i hi
            simp only [List.length_cons, List.length_nil] at hi
            have : i = 0 ∨ i = 1 ∨ i = 2 ∨ i = 3 ∨ i = 4 ∨ i = 5 := by omega
            have key := fun j u hj => new_cells w3 (([s, t, (List.take k t).drop 0, [35, 97, 10, 35, 10] ++ t, (List.take k t).drop 0 ++ m ++ (t.take t.length).drop k, (List.take k t).drop 0 ++ m ++ (t.take t.length).drop (min ((k : Int) + m.length) t.length).toNat]).map fun x => Value.string (S x)) 9 j u hj
            simp only [Addr.add, Nat.zero_add, List.map_cons, List.map_nil] at key
            rcases this with rfl | rfl | rfl | rfl | rfl | rfl
            · exact key 0 _ rfl
            · exact key 1 _ rfl
            · exact key 2 _ rfl
            · exact key 3 _ rfl
            · exact key 4 _ rfl
            · exact key 5 _ rfl
        have hl4 : w3.heap.size < ((w3.alloc (Obj.cells #[Value.string (S s), Value.string (S t), Value.string ((S t).extract 0 k), Value.string ({ data := #[35, 97, 10, 35, 10] } ++ S t), Value.string ((S t).extract 0 k ++ S m ++ (S t).extract k t.length), Value.string ((S t).extract 0 k ++ S m ++ (S t).extract (min ((k : Int) + m.length) t.length).toNat t.length)] 9)).drew).heap.size := by show _ < (w3.heap.push _).size; rw [Array.size_push]; omega
        generalize ((w3.alloc (Obj.cells #[Value.string (S s), Value.string (S t), Value.string ((S t).extract 0 k), Value.string ({ data := #[35, 97, 10, 35, 10] } ++ S t), Value.string ((S t).extract 0 k ++ S m ++ (S t).extract k t.length), Value.string ((S t).extract 0 k ++ S m ++ (S t).extract (min ((k : Int) + m.length) t.length).toNat t.length)] 9)).drew) = w5 at hw4 hxc hl4 ⊢
        have hb15 := hb14.trans (hw4.mono hb14.size)
        have hg5 : Good5 w5 := hg.below hb15 hs4
        have HXC := Lib.hid hxc
        have HXB := Lib.hid hxb
        clear hxc hxb hw4 hb14 hg4
        go_wp2_with fail
        go_loopw [113] (fun i wr => ∃ n : Nat, n ≤ 6 ∧ i = .int .i64 n ∧ Below w5.heap.size w5 wr) (fun i _ => 6 - (intOf i).toNat)
        case atStart => exact ⟨0, by omega, rfl, Below.refl _ _⟩
        case round =>
          obtain ⟨n, hn6, rfl, hbr⟩ := hrel
          by_cases hlt6 : n < 6
          · have hp := (hbr.cell (p := ⟨w3.heap.size, n, none⟩) hl4).trans (HXC.out n (by omega))
            have hxl := HXB.out xs[n] (List.getElem_mem (by omega))
            generalize xs[n] = x at hp hxl
            have hlt' : (n : Int) < 6 := by omega
            have hgr : Good5 wr := hg5.below hbr hg5.size
            go_wp2_with fail
            refine (parse_walk x wr (by omega) hgr.2 (by have := hgr.size; omega)).mono ?_
            rintro e w6 ⟨va, rfl, ho6, hb6⟩
            go_wp2_with fail
            refine (rparse_walk x w6 (by omega)).mono ?_
            rintro e w7 ⟨vb, rfl, ho7, hb7⟩
            have r6 : CRow w7 va (parseP x).1 := (crow_of_owns ho6).below hb7
            have r7 := crow_of_owns ho7
            have hb56 := hbr.trans (hb6.mono hbr.size)
            have hb57 := hb56.trans (hb7.mono hb56.size)
            have hlen : (parseP x).1.length ≤ 4611686018427387904 := parse_len x
            clear ho6 ho7 hb6 hb7 hb56 hbr hp hgr
            generalize parseP x = y at *
            obtain ⟨y1, y2, y3⟩ := y
            dsimp only at *
            go_wp2_with fail
            refine (csame_walk _ _ _ _ _ (by omega) (by omega) r6 r7).mono ?_
            rintro e w' ⟨rfl, nn, rfl⟩
            go_wp2_with fail
            exact ⟨⟨n + 1, by omega, by simp, below_drewN hb57 nn⟩, by simp [intOf]; omega⟩
          · have hn7 : n = 6 := by omega
            subst hn7
            have hb17 := hb15.trans (hbr.mono hb15.size)
            go_wp2_with fail
            go_ret
            exact ⟨rfl, hb17⟩
  · have hxr : CRow w2 (.slice a any.length cap) (any) := HXW.out
    have hxl : (any).length ≤ 100 := by omega
    have hbig' : ¬ (100 : Int) < any.length := by omega
    have hcap' : (any.length : Int) ≤ cap := by omega

    go_wp2_with fail
    clear HXW hbig hbig'
    generalize (Value.slice a any.length cap) = xv at *
    generalize (Value.slice la l.length lcap) = lv at *
    generalize any = xl at *

    have hb3 : Below w2.heap.size w2 (w2.alloc (Obj.cells #[lv, xv] 43)) := (Below.refl _ w2).alloc (Nat.le_refl _) _
    have hc3 : ∀ k : Nat, k < 2 → ∃ (yv : Value) (y : List (Int × Int)), (w2.alloc (Obj.cells #[lv, xv] 43)).cell? ⟨w2.heap.size, k, none⟩ = some yv ∧ CRow w2 yv y ∧ y.length ≤ 100 := by
      intro k hk
      have key := fun j u hj => new_cells w2 [lv, xv] 43 j u hj
      simp only [Addr.add, Nat.zero_add] at key
      have : k = 0 ∨ k = 1 := by omega
      rcases this with rfl | rfl
      · exact ⟨lv, l, key 0 _ rfl, hlr, by omega⟩
      · exact ⟨xv, xl, key 1 _ rfl, hxr, hxl⟩
    have hz3 : w2.heap.size < (w2.alloc (Obj.cells #[lv, xv] 43)).heap.size := by simp
    have HC3 := Lib.hid hc3
    clear hc3
    generalize (w2.alloc (Obj.cells #[lv, xv] 43)) = w3 at *
    go_loopw [47] (fun i wr => ∃ n : Nat, n ≤ 2 ∧ i = .int .i64 n ∧ Below w3.heap.size w3 wr) (fun i _ => 2 - (intOf i).toNat)
    case atStart => exact ⟨0, by omega, rfl, Below.refl _ _⟩
    case round =>
      obtain ⟨n, hn, rfl, hbr⟩ := hrel
      by_cases hlt : n < 2
      · obtain ⟨yv, y, hcy, hyr, hyl⟩ := HC3.out n hlt
        have hp := (hbr.cell (p := ⟨w2.heap.size, n, none⟩) hz3).trans hcy
        have hy3 := (hyr.below hb3).below hbr
        have hlt' : (n : Int) < 2 := by omega
        have hgr : Good5 wr := hg.below (hb12.trans ((hb3.trans (hbr.mono hb3.size)).mono hb12.size)) hs4
        clear hcy hyr
        go_wp2_with fail
        refine (print_walk yv y wr (by omega) hgr.1 hy3).mono ?_
        rintro e w5 ⟨rfl, hb5⟩
        have hy5 := hy3.below hb5
        go_wp2_with fail
        refine (rprint_walk yv y w5 (by omega) hy5).mono ?_
        rintro e w6 ⟨rfl, hb6⟩
        have hb56 := hbr.trans (hb5.mono hbr.size)
        have hb57 := hb56.trans (hb6.mono hb56.size)
        clear hy5 hy3 hb5 hb6 hb56 hbr hgr hp
        generalize printOf y = pr at *
        obtain ⟨pt, pe⟩ := pr
        dsimp only at *
        go_wp2_with fail
        exact ⟨⟨n + 1, by omega, by simp, hb57⟩, by simp [intOf]; omega⟩
      · have hn2 : n = 2 := by omega
        subst hn2
        have hbW := hb12.trans ((hb3.trans (hbr.mono hb3.size)).mono hb12.size)
        have hlW := (hlr.below hb3).below hbr
        have hgW : Good5 wr := hg.below hbW hs4
        clear hbr hb3 hb12 HC3 hlr hxr hz3
        generalize wr = w3 at *
        go_wp2_with fail
        refine (rprint_walk lv l w3 (by omega) hlW).mono ?_
        rintro e w4 ⟨rfl, hb4⟩
        have hb14 := hbW.trans (hb4.mono hbW.size)
        have hg4 : Good5 w4 := hg.below hb14 hs4
        have htl := print_len l
        generalize (printOf l).1 = t at *
        generalize (printOf l).2 = te at *
        have hts := S_size t
        have hms := S_size m
        clear hlW hb4 hbW hgW
        generalize w4 = w3 at *
        go_wp2_with fail
        refine (pick26_any _ _ _ (by omega) (by omega) (by omega) (by omega)).mono ?_
        rintro e w' ⟨rfl, rfl⟩
        have k0 := pickI_nonneg c (n := (t.length : Int) + 1) (by omega)
        have k1 := pickI_lt c (n := (t.length : Int) + 1) (by omega)
        obtain ⟨k, hk⟩ : ∃ k : Nat, pickI c ((t.length : Int) + 1) = k := ⟨_, (Int.toNat_of_nonneg k0).symm⟩
        rw [hk] at k0 k1 ⊢
        have hkt : k ≤ t.length := by omega
        clear hk k0 k1
        have hkt' : (k : Int) ≤ t.length := by omega
        have htl' : (t.length : Int) ≤ 3000 := by omega
        have hml' : (m.length : Int) ≤ 140737488351232 := by omega
        go_wp2_with fail
        go_region
        have hw4 : Below w3.heap.size w3 ((w3.alloc (Obj.cells #[Value.string (S s), Value.string (S t), Value.string ((S t).extract 0 k), Value.string ({ data := #[35, 97, 10, 35, 10] } ++ S t), Value.string ((S t).extract 0 k ++ S m ++ (S t).extract k t.length), Value.string ((S t).extract 0 k ++ S m ++ (S t).extract (min ((k : Int) + m.length) t.length).toNat t.length)] 9)).drew) := ((Below.refl _ w3).alloc (Nat.le_refl _) _).drew
        obtain ⟨xs, hxsl, hxb, hxc⟩ : ∃ xs : List (List UInt8), xs.length = 6 ∧ (∀ x ∈ xs, x.length ≤ 562949953421312) ∧ ∀ i (h : i < xs.length), ((w3.alloc (Obj.cells #[Value.string (S s), Value.string (S t), Value.string ((S t).extract 0 k), Value.string ({ data := #[35, 97, 10, 35, 10] } ++ S t), Value.string ((S t).extract 0 k ++ S m ++ (S t).extract k t.length), Value.string ((S t).extract 0 k ++ S m ++ (S t).extract (min ((k : Int) + m.length) t.length).toNat t.length)] 9)).drew).cell? ⟨w3.heap.size, i, none⟩ = some (.string (S xs[i])) := by
          rw [show (⟨#[35, 97, 10, 35, 10]⟩ : ByteArray) = S [35, 97, 10, 35, 10] from rfl]
          simp only [S_extract, S_append]
          refine ⟨[s, t, (List.take k t).drop 0, [35, 97, 10, 35, 10] ++ t, (List.take k t).drop 0 ++ m ++ (t.take t.length).drop k, (List.take k t).drop 0 ++ m ++ (t.take t.length).drop (min ((k : Int) + m.length) t.length).toNat], rfl, ?_, ?_⟩
          · intro x hx
            simp only [List.mem_cons, List.mem_nil_iff, or_false] at hx
            rcases hx with rfl | rfl | rfl | rfl | rfl | rfl <;> (try simp only [List.length_append, List.length_drop, List.length_take, List.length_cons, List.length_nil]) <;> omega
          · intro i hi
            simp only [List.length_cons, List.length_nil] at hi
            have : i = 0 ∨ i = 1 ∨ i = 2 ∨ i = 3 ∨ i = 4 ∨ i = 5 := by omega
            have key := fun j u hj => new_cells w3 (([s, t, (List.take k t).drop 0, [35, 97, 10, 35, 10] ++ t, (List.take k t).drop 0 ++ m ++ (t.take t.length).drop k, (List.take k t).drop 0 ++ m ++ (t.take t.length).drop (min ((k : Int) + m.length) t.length).toNat]).map fun x => Value.string (S x)) 9 j u hj
            simp only [Addr.add, Nat.zero_add, List.map_cons, List.map_nil] at key
            rcases this with rfl | rfl | rfl | rfl | rfl | rfl
            · exact key 0 _ rfl
            · exact key 1 _ rfl
            · exact key 2 _ rfl
            · exact key 3 _ rfl
            · exact key 4 _ rfl
            · exact key 5 _ rfl
        have hl4 : w3.heap.size < ((w3.alloc (Obj.cells #[Value.string (S s), Value.string (S t), Value.string ((S t).extract 0 k), Value.string ({ data := #[35, 97, 10, 35, 10] } ++ S t), Value.string ((S t).extract 0 k ++ S m ++ (S t).extract k t.length), Value.string ((S t).extract 0 k ++ S m ++ (S t).extract (min ((k : Int) + m.length) t.length).toNat t.length)] 9)).drew).heap.size := by show _ < (w3.heap.push _).size; rw [Array.size_push]; omega
        generalize ((w3.alloc (Obj.cells #[Value.string (S s), Value.string (S t), Value.string ((S t).extract 0 k), Value.string ({ data := #[35, 97, 10, 35, 10] } ++ S t), Value.string ((S t).extract 0 k ++ S m ++ (S t).extract k t.length), Value.string ((S t).extract 0 k ++ S m ++ (S t).extract (min ((k : Int) + m.length) t.length).toNat t.length)] 9)).drew) = w5 at hw4 hxc hl4 ⊢
        have hb15 := hb14.trans (hw4.mono hb14.size)
        have hg5 : Good5 w5 := hg.below hb15 hs4
        have HXC := Lib.hid hxc
        have HXB := Lib.hid hxb
        clear hxc hxb hw4 hb14 hg4
        go_wp2_with fail
        go_loopw [113] (fun i wr => ∃ n : Nat, n ≤ 6 ∧ i = .int .i64 n ∧ Below w5.heap.size w5 wr) (fun i _ => 6 - (intOf i).toNat)
        case atStart => exact ⟨0, by omega, rfl, Below.refl _ _⟩
        case round =>
          obtain ⟨n, hn6, rfl, hbr⟩ := hrel
          by_cases hlt6 : n < 6
          · have hp := (hbr.cell (p := ⟨w3.heap.size, n, none⟩) hl4).trans (HXC.out n (by omega))
            have hxl := HXB.out xs[n] (List.getElem_mem (by omega))
            generalize xs[n] = x at hp hxl
            have hlt' : (n : Int) < 6 := by omega
            have hgr : Good5 wr := hg5.below hbr hg5.size
            go_wp2_with fail
            refine (parse_walk x wr (by omega) hgr.2 (by have := hgr.size; omega)).mono ?_
            rintro e w6 ⟨va, rfl, ho6, hb6⟩
            go_wp2_with fail
            refine (rparse_walk x w6 (by omega)).mono ?_
            rintro e w7 ⟨vb, rfl, ho7, hb7⟩
            have r6 : CRow w7 va (parseP x).1 := (crow_of_owns ho6).below hb7
            have r7 := crow_of_owns ho7
            have hb56 := hbr.trans (hb6.mono hbr.size)
            have hb57 := hb56.trans (hb7.mono hb56.size)
            have hlen : (parseP x).1.length ≤ 4611686018427387904 := parse_len x
            clear ho6 ho7 hb6 hb7 hb56 hbr hp hgr
            generalize parseP x = y at *
            obtain ⟨y1, y2, y3⟩ := y
            dsimp only at *
            go_wp2_with fail
            refine (csame_walk _ _ _ _ _ (by omega) (by omega) r6 r7).mono ?_
            rintro e w' ⟨rfl, nn, rfl⟩
            go_wp2_with fail
            exact ⟨⟨n + 1, by omega, by simp, below_drewN hb57 nn⟩, by simp [intOf]; omega⟩
          · have hn7 : n = 6 := by omega
            subst hn7
            have hb17 := hb15.trans (hbr.mono hb15.size)
            go_wp2_with fail
            go_ret
            exact ⟨rfl, hb17⟩
end Go.Proofs.YtnpndkmcgpaibaaDoor
