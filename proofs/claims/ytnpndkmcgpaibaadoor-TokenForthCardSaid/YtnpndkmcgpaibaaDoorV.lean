/- The walk of chapter 4's law TokenForth. -/
import Derived.Test.YtnpndkmcgpaibaaDoorR
import Derived.Test.YtnpndkmcgpaibaaDoorU
set_option linter.unusedVariables false
namespace Go.Proofs.YtnpndkmcgpaibaaDoor
open Go.RowKit Go.Sort

theorem place_bare (l : List It) (at_ : Int) (k : Nat) (h : k < (place at_ (bare l)).length) (h2 : k < l.length) : (place at_ (bare l))[k].tag = l[k].tag ∧ (place at_ (bare l))[k].n = l[k].n := by
  induction l generalizing at_ k with
  | nil => simp at h2
  | cons x r ih =>
    have e : bare (x :: r) = ([], x) :: bare r := rfl
    have key : ∀ (L : List It) (h3 : k < L.length), L = place at_ (([], x) :: bare r) → L[k].tag = (x :: r)[k].tag ∧ L[k].n = (x :: r)[k].n := by
      rintro L h3 rfl
      cases k with
      | zero => exact ⟨rfl, rfl⟩
      | succ k =>
        rw [List.getElem_cons_succ]
        exact ih _ k (by simpa [place] using h3) (by simpa using h2)
    exact key _ h (by rw [e])

set_option maxHeartbeats 8000000 in
set_option maxRecDepth 100000 in
theorem forth_walk (s m : List UInt8) (rv : Value) (raw : List (Int × Int)) (c : Int) (w : World) (hg : Good w) (hr : RawRow w rv raw)
    (hs : s.length ≤ 140737488351232) (hm : m.length ≤ 140737488351232) (hrl : raw.length ≤ 140737488351232)
    (hc0 : -9223372036854775808 ≤ c) (hc1 : c ≤ 9223372036854775807) :
    Calls Tryd.prog 5 #[.string (S s), rv, .int .i64 c, .string (S m)] w fun e w' => e = .returned (.bool true) ∧ Below w.heap.size w w' := by
  go_enter Tryd.func5, Tryd.ntmps5
  go_wp2_with fail
  refine (awake_walk _ hg).mono ?_
  rintro e w1 ⟨rfl, hb1⟩
  go_wp2_with fail
  refine (items_walk _ raw _ (by omega) (hr.below hb1)).mono ?_
  rintro e w2 ⟨lv, rfl, ho, hb2⟩
  have hb12 := hb1.trans (hb2.mono hb1.size)
  have hg2 := hg.below hb12 hg.2
  have hil := items_len raw
  go_wp2_with fail
  refine (text_walk _ (items raw) _ (by omega) hg2 (itrow_of_owns ho)).mono ?_
  rintro e w3 ⟨rfl, hb3⟩
  have hb13 := hb12.trans (hb3.mono hb12.size)
  have htl := text_items_len raw
  have happ := S_append (text (items raw)) [33]
  have h33 : S [33] = ⟨#[33]⟩ := rfl
  rw [h33] at happ
  obtain ⟨t, ht⟩ : ∃ t, text (items raw) ++ [33] = t := ⟨_, rfl⟩
  have htl2 : t.length ≤ 561 := by rw [← ht]; simp; omega
  have htl3 : t.length = (text (items raw)).length + 1 := by rw [← ht]; simp
  rw [ht] at happ
  have hts := S_size t
  have hms := S_size m
  have hxs0 := S_size (text (items raw))
  generalize text (items raw) = u at *
  clear ho hr hil
  go_wp2_with fail
  rw [show (u.length : Int) + 1 + 1 = (t.length : Int) + 1 from by omega]
  refine (pick_any _ _ _ (by omega) (by omega) (by omega) (by omega)).mono ?_
  rintro e w' ⟨rfl, rfl⟩
  have k0 := pickI_nonneg c (n := (t.length : Int) + 1) (by omega)
  have k1 := pickI_lt c (n := (t.length : Int) + 1) (by omega)
  obtain ⟨k, hk⟩ : ∃ k : Nat, pickI c ((t.length : Int) + 1) = k := ⟨_, (Int.toNat_of_nonneg k0).symm⟩
  rw [hk] at k0 k1 ⊢
  have hkt : k ≤ t.length := by omega
  clear hk k0 k1
  have hkt' : (k : Int) ≤ t.length := by omega
  have htl' : (t.length : Int) ≤ 561 := by omega
  have hml' : (m.length : Int) ≤ 140737488351232 := by omega
  go_wp2_with fail
  go_region
  have hw4 : Below w3.heap.size w3 ((w3.alloc (Obj.cells #[Value.string (S s), Value.string ((S t).extract 0 k ++ S m ++ (S t).extract k (u.length + 1)), Value.string ((S t).extract 0 k ++ S m ++ (S t).extract (min ((k : Int) + m.length) ((u.length : Int) + 1)).toNat (u.length + 1))] 9)).drew) := ((Below.refl _ w3).alloc (Nat.le_refl _) _).drew
  obtain ⟨xs, hxl, hxb, hxc⟩ : ∃ xs : List (List UInt8), xs.length = 3 ∧ (∀ x ∈ xs, x.length ≤ 562949953421312) ∧ ∀ i (h : i < xs.length), ((w3.alloc (Obj.cells #[Value.string (S s), Value.string ((S t).extract 0 k ++ S m ++ (S t).extract k (u.length + 1)), Value.string ((S t).extract 0 k ++ S m ++ (S t).extract (min ((k : Int) + m.length) ((u.length : Int) + 1)).toNat (u.length + 1))] 9)).drew).cell? ⟨w3.heap.size, i, none⟩ = some (.string (S xs[i])) := by
    simp only [S_extract, S_append]
    refine ⟨[s, (List.take k t).drop 0 ++ m ++ (t.take (u.length + 1)).drop k, (List.take k t).drop 0 ++ m ++ (t.take (u.length + 1)).drop (min ((k : Int) + m.length) ((u.length : Int) + 1)).toNat], rfl, ?_, ?_⟩
    · intro x hx
      simp only [List.mem_cons, List.mem_nil_iff, or_false] at hx
      rcases hx with rfl | rfl | rfl <;> (try simp only [List.length_append, List.length_drop, List.length_take]) <;> omega
    · intro i hi
      simp only [List.length_cons, List.length_nil] at hi
      have : i = 0 ∨ i = 1 ∨ i = 2 := by omega
      have key := fun j u' hj => new_cells w3 [Value.string (S s), Value.string (S ((List.take k t).drop 0 ++ m ++ (t.take (u.length + 1)).drop k)), Value.string (S ((List.take k t).drop 0 ++ m ++ (t.take (u.length + 1)).drop (min ((k : Int) + m.length) ((u.length : Int) + 1)).toNat))] 9 j u' hj
      simp only [Addr.add, Nat.zero_add] at key
      rcases this with rfl | rfl | rfl
      · exact key 0 _ rfl
      · exact key 1 _ rfl
      · exact key 2 _ rfl
  have hl4 : w3.heap.size < ((w3.alloc (Obj.cells #[Value.string (S s), Value.string ((S t).extract 0 k ++ S m ++ (S t).extract k (u.length + 1)), Value.string ((S t).extract 0 k ++ S m ++ (S t).extract (min ((k : Int) + m.length) ((u.length : Int) + 1)).toNat (u.length + 1))] 9)).drew).heap.size := by show _ < (w3.heap.push _).size; rw [Array.size_push]; omega
  generalize ((w3.alloc (Obj.cells #[Value.string (S s), Value.string ((S t).extract 0 k ++ S m ++ (S t).extract k (u.length + 1)), Value.string ((S t).extract 0 k ++ S m ++ (S t).extract (min ((k : Int) + m.length) ((u.length : Int) + 1)).toNat (u.length + 1))] 9)).drew) = w4 at hw4 hxc hl4 ⊢
  have hb14 := hb13.trans (hw4.mono hb13.size)
  have HXC := Lib.hid hxc
  have HXB := Lib.hid hxb
  clear hxc hxb hb1 hb2 hb3 hb12 hb13 hw4
  go_wp2_with fail
  go_loopw [61] (fun i wr => ∃ n : Nat, n ≤ 3 ∧ i = .int .i64 n ∧ Below w4.heap.size w4 wr) (fun i _ => 3 - (intOf i).toNat)
  case atStart => exact ⟨0, by omega, rfl, Below.refl _ _⟩
  case round =>
    obtain ⟨n, hn, rfl, hbr⟩ := hrel
    have hb1r := hb14.trans (hbr.mono hb14.size)
    by_cases hlt : n < 3
    · have hp := (hbr.cell (p := ⟨w3.heap.size, n, none⟩) hl4).trans (HXC.out n (by omega))
      have hxl := HXB.out xs[n] (List.getElem_mem (by omega))
      generalize xs[n] = x at hp hxl
      have hlt' : (n : Int) < 3 := by omega
      go_wp2_with fail
      refine (lex_walk x _ (by omega)).mono ?_
      rintro e w5 ⟨va, rfl, ho5, hb5⟩
      have r5 : ItRow w5 va (lex x).1 := itrow_of_owns ho5
      have hb45 := hbr.trans (hb5.mono hbr.size)
      have hb15 := hb1r.trans (hb5.mono hb1r.size)
      have hlen := lex_len x
      have hF := (lex_facts x).1
      have hF2 := (lex_facts x).2
      have hxS := S_size x
      generalize lex x = y at *
      obtain ⟨L, er, p⟩ := y
      obtain ⟨f1, f2, f3, f4, f5, f6, f7, f8⟩ := hF
      dsimp only at *
      by_cases he : er = 0
      · subst he
        have hx20 := hF2 rfl
        have hval : ∀ y ∈ L, valid y := fun y hy => (f5 rfl y hy).1
        have HAT := Lib.hid (fun y hy => (f5 rfl y hy).2)
        have HUP := Lib.hid (f6 rfl)
        have htp := f7 rfl
        have hpe := f8 rfl
        have L1 := lex_told (bare L) [] (bvalid_bare hval) (by rw [btext_bare]; simp; omega)
        have L2 := lex_told_out (bare L) (bvalid_bare hval) (by rw [btext_bare]; omega)
        rw [btext_bare] at L1 L2
        have HPL := Lib.hid (place_bare L 0)
        have lM : (place 0 (bare L)).length = L.length := by rw [place_length, bare_length]
        have hSL := S_size (text L)
        have hg5 := hg.below hb15 hg.2
        clear f1 f2 f4 f5 f6 f7 f8 hF2 hp
        have r5' := r5
        obtain ⟨a, cap, rfl, hc5⟩ := itrow_cases r5
        go_wp2_with fail
        refine (text_walk _ L _ (by omega) hg5 r5').mono ?_
        rintro e w6 ⟨rfl, hb6⟩
        have r6 := r5'.below hb6
        have hb16 := hb15.trans (hb6.mono hb15.size)
        have hb46 := hb45.trans (hb6.mono hb45.size)
        go_wp2_with fail
        refine (lex_callS (l := text L ++ [33]) (S_append _ _) L1 (by simp; omega) _).mono ?_
        rintro e w7 ⟨vb, rfl, ho7, hb7⟩
        have r7 := r6.below hb7
        have rM := itrow_of_owns ho7
        have hb17 := hb16.trans (hb7.mono hb16.size)
        have hb47 := hb46.trans (hb7.mono hb46.size)
        have hg7 := hg.below hb17 hg.2
        generalize place 0 (bare L) = M at *
        obtain ⟨ma, mcap, rfl, hmc⟩ := itrow_cases rM
        clear ho5 ho7 r5 r5' r6 L1 hb5 hb6 hb7 hc5 hmc hg5
        rw [lM]
        go_wp2_with fail
        refine (text_walk _ L _ (by omega) hg7 r7).mono ?_
        rintro e w8 ⟨rfl, hb8⟩
        have r8 := r7.below hb8
        have rM8 := rM.below hb8
        rw [lM] at rM8
        have hb18 := hb17.trans (hb8.mono hb17.size)
        have hb48 := hb47.trans (hb8.mono hb47.size)
        have hg8 := hg.below hb18 hg.2
        clear r7 rM hb8 hg7 hb17 hb47 hb46 hb16
        go_wp2_with fail
        obtain ⟨la, lcap, hle, hlc⟩ := itrow_cases r8
        obtain ⟨ma', mcap', hme, hmc⟩ := itrow_cases rM8
        simp only [Value.slice.injEq] at hle hme
        obtain ⟨rfl, -, rfl⟩ := hle
        obtain ⟨rfl, -, rfl⟩ := hme
        have HLC := Lib.hid hlc
        have HMC := Lib.hid hmc
        clear hlc hmc rM8
        go_loopw [20] (fun i wq => ∃ j : Nat, j ≤ L.length ∧ i = .int .i64 j ∧ Below w8.heap.size w8 wq) (fun i _ => L.length - (intOf i).toNat)
        case atStart => exact ⟨0, by omega, rfl, Below.refl _ _⟩
        case round =>
          obtain ⟨j, hj, rfl, hbq⟩ := hrel
          by_cases hjl : j < L.length
          · obtain ⟨lb, lo, rfl, hlb, a0, a1, a2⟩ := HLC.out j hjl
            obtain ⟨mb, mo, hma, hmb, c0, c1, c2⟩ := HMC.out j (by omega)
            obtain rfl := hma
            have hpb := HPL.out j (by omega) hjl
            have hat := HAT.out L[j] (List.getElem_mem hjl)
            rw [hpb.1] at c0
            rw [hpb.2] at c1
            have p0 := (hbq.cell (p := ⟨lb, lo + j * 3, none⟩) hlb).trans a0
            have p1 := (hbq.cell (p := ⟨lb, lo + j * 3 + 1, none⟩) hlb).trans a1
            have p2 := (hbq.cell (p := ⟨lb, lo + j * 3 + 2, none⟩) hlb).trans a2
            have q0 := (hbq.cell (p := ⟨mb, mo + j * 3, none⟩) hmb).trans c0
            have q1 := (hbq.cell (p := ⟨mb, mo + j * 3 + 1, none⟩) hmb).trans c1
            have hjl' : (j : Int) < L.length := by omega
            cases j with
            | zero =>
              obtain ⟨ha0, ha1⟩ := hat
              clear hpb a0 a1 a2 c0 c1 c2
              generalize L[0] = z at *
              have hzp : decide (p ≤ z.at_) = false := by simp; omega
              simp only [Nat.zero_mul, Nat.add_zero] at p0 p1 p2 q0 q1
              go_wp2_with fail
              go_quiet (fail)
              go_wp2_with fail
              exact ⟨⟨1, by omega, by simp, below_drewN hbq _⟩, by simp [intOf]; omega⟩
            | succ i =>
              obtain ⟨ha0, ha1⟩ := hat
              obtain ⟨lb', lo', hla', hlb', -, -, b2⟩ := HLC.out i (by omega)
              simp only [Option.some.injEq, Addr.mk.injEq, and_true] at hla'
              obtain ⟨rfl, rfl⟩ := hla'
              have o2 := (hbq.cell (p := ⟨lb, lo + i * 3 + 2, none⟩) hlb).trans b2
              have hup := List.pairwise_iff_getElem.1 HUP.out i (i + 1) (by omega) hjl (by omega)
              have hprev := (HAT.out L[i] (List.getElem_mem (by omega))).1
              clear hpb a0 a1 a2 c0 c1 c2 b2
              generalize L[i + 1] = z at *
              generalize L[i] = z' at *
              have hzp : decide (p ≤ z.at_) = false := by simp; omega
              have hzz : decide (z.at_ ≤ z'.at_) = false := by simp; omega
              have hzi : decide ((0 : Int) < i + 1) = true := by simp
              go_wp2_with fail
              go_quiet (fail)
              go_wp2_with fail
              exact ⟨⟨i + 1 + 1, by omega, by simp, below_drewN hbq _⟩, by simp [intOf]; omega⟩
          · have hje : j = L.length := by omega
            subst hje
            have hb1q := hb18.trans (hbq.mono hb18.size)
            have hb4q := hb48.trans (hbq.mono hb48.size)
            have hgq := hg.below hb1q hg.2
            have rq := r8.below hbq
            clear r8 hbq HLC HMC
            go_wp2_with fail
            refine (text_walk _ L _ (by omega) hgq rq).mono ?_
            rintro e w9 ⟨rfl, hb9⟩
            have hb4n := hb4q.trans (hb9.mono hb4q.size)
            go_wp2_with fail
            refine (lex_callS (l := text L) rfl L2 (by omega) _).mono ?_
            rintro e w10 ⟨vd, rfl, -, hb10⟩
            have hb4o := hb4n.trans (hb10.mono hb4n.size)
            go_wp2_with fail
            exact ⟨⟨n + 1, by omega, by simp, hb4o⟩, by simp [intOf]; omega⟩
      · obtain rfl := f1 he
        have heb : (er != 0) = true := by simpa using he
        obtain ⟨a, cap, rfl, -⟩ := r5
        by_cases h31 : er = 31
        · have hpx := f4 h31
          subst h31
          go_wp2_with fail
          exact ⟨⟨n + 1, by omega, by simp, hb45⟩, by simp [intOf]; omega⟩
        · have h31b : (er == 31) = false := by simpa using h31
          go_wp2_with fail
          exact ⟨⟨n + 1, by omega, by simp, hb45⟩, by simp [intOf]; omega⟩
    · have hn5 : n = 3 := by omega
      subst hn5
      go_wp2
      go_ret
      exact ⟨rfl, hb1r⟩
end Go.Proofs.YtnpndkmcgpaibaaDoor
