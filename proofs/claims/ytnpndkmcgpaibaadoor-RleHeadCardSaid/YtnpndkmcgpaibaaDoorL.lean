/- The walk of chapter 4's law TokenTells. -/
import Derived.Test.YtnpndkmcgpaibaaDoorK
import Derived.BigRegion
set_option linter.unusedVariables false
namespace Go.Proofs.YtnpndkmcgpaibaaDoor
open Go.RowKit Go.Sort

theorem items_len (raw : List (Int × Int)) : (items raw).length ≤ 40 := by
  rw [items, List.length_map, List.length_take]; omega
theorem text_items_len (raw : List (Int × Int)) : (text (items raw)).length ≤ 560 := by
  have h1 := text_len (items raw)
  have h2 := items_len raw
  omega

theorem lexLoop_len (f : Nat) : ∀ (l : List UInt8) (at_ : Int) (acc : List It), (lexLoop f l at_ acc).1.length ≤ acc.length + f := by
  induction f with
  | zero => intro l at_ acc; simp [lexLoop]
  | succ f ih =>
    intro l at_ acc
    rw [lexLoop]
    split
    · simp
    · split
      · simp
      · split
        · simp
        · refine Nat.le_trans (ih _ _ _) ?_
          simp; omega
theorem lex_len (l : List UInt8) : (lex l).1.length ≤ 20001 := by
  unfold lex
  split
  · simp
  · have := lexLoop_len (l.length + 1) l 0 []
    simp at this; omega

set_option maxHeartbeats 8000000 in
set_option maxRecDepth 100000 in
theorem tells_walk (s m : List UInt8) (v rv : Value) (its : List It) (raw : List (Int × Int)) (c : Int) (w : World) (hg : Good w) (hv : ItRow w v its) (hr : RawRow w rv raw)
    (hs : s.length ≤ 140737488351232) (hm : m.length ≤ 140737488351232) (hl : its.length * 24 ≤ 140737488351232) (hrl : raw.length ≤ 140737488351232)
    (hc0 : -9223372036854775808 ≤ c) (hc1 : c ≤ 9223372036854775807) :
    Calls Tryd.prog 3 #[.string (S s), v, rv, .int .i64 c, .string (S m)] w fun e w' => e = .returned (.bool true) ∧ Below w.heap.size w w' := by
  have HG := Lib.hid hg
  have HV := Lib.hid hv
  go_enter Tryd.func3, Tryd.ntmps3
  go_wp2_with fail
  refine (awake_walk _ hg).mono ?_
  rintro e w1 ⟨rfl, hb1⟩
  go_wp2_with fail
  refine (items_walk _ raw _ (by omega) (hr.below hb1)).mono ?_
  rintro e w2 ⟨lv, rfl, ho, hb2⟩
  have hb12 := hb1.trans (hb2.mono hb1.size)
  go_wp2_with fail
  refine (rtext_walk _ (items raw) _ (by have := items_len raw; omega) (itrow_of_owns ho)).mono ?_
  rintro e w3 ⟨rfl, hb3⟩
  have hb13 := hb12.trans (hb3.mono hb12.size)
  have htl := text_items_len raw
  generalize htt : text (items raw) = t at *
  have hts := S_size t
  have hms := S_size m
  go_wp2_with fail
  refine (pick_any _ _ _ (by omega) (by omega) (by omega) (by omega)).mono ?_
  rintro e w' ⟨rfl, rfl⟩
  have k0 := pickI_nonneg c (n := (t.length : Int) + 1) (by omega)
  have k1 := pickI_lt c (n := (t.length : Int) + 1) (by omega)
  obtain ⟨k, hk⟩ : ∃ k : Nat, pickI c ((t.length : Int) + 1) = k := ⟨_, (Int.toNat_of_nonneg k0).symm⟩
  rw [hk] at k0 k1 ⊢
  have hkt : k ≤ t.length := by omega
  clear hk k0 k1
  have hkt' : (k : Int) ≤ t.length := by omega
  have htl' : (t.length : Int) ≤ 560 := by omega
  have hml' : (m.length : Int) ≤ 140737488351232 := by omega
  go_wp2_with fail
  go_region
  have hw4 : Below w3.heap.size w3 ((w3.alloc (Obj.cells #[Value.string (S s), Value.string (S t ++ { data := #[33] }), Value.string (S t), Value.string ((S t).extract 0 k ++ S m ++ (S t).extract k t.length ++ { data := #[33] }), Value.string ((S t).extract 0 k ++ S m ++ (S t).extract (min ((k : Int) + m.length) t.length).toNat t.length ++ { data := #[33] })] 9)).drew) := ((Below.refl _ w3).alloc (Nat.le_refl _) _).drew
  obtain ⟨xs, hxl, hxb, hxc⟩ : ∃ xs : List (List UInt8), xs.length = 5 ∧ (∀ x ∈ xs, x.length ≤ 562949953421312) ∧ ∀ i (h : i < xs.length), ((w3.alloc (Obj.cells #[Value.string (S s), Value.string (S t ++ { data := #[33] }), Value.string (S t), Value.string ((S t).extract 0 k ++ S m ++ (S t).extract k t.length ++ { data := #[33] }), Value.string ((S t).extract 0 k ++ S m ++ (S t).extract (min ((k : Int) + m.length) t.length).toNat t.length ++ { data := #[33] })] 9)).drew).cell? ⟨w3.heap.size, i, none⟩ = some (.string (S xs[i])) := by
    rw [show (⟨#[33]⟩ : ByteArray) = S [33] from rfl]
    simp only [S_extract, S_append]
    refine ⟨[s, t ++ [33], t, (List.take k t).drop 0 ++ m ++ (t.take t.length).drop k ++ [33], (List.take k t).drop 0 ++ m ++ (t.take t.length).drop (min ((k : Int) + m.length) t.length).toNat ++ [33]], rfl, ?_, ?_⟩
    · intro x hx
      simp only [List.mem_cons, List.mem_nil_iff, or_false] at hx
      rcases hx with rfl | rfl | rfl | rfl | rfl <;> (try simp only [List.length_append, List.length_drop, List.length_take, List.length_cons, List.length_nil]) <;> omega
    · intro i hi
      simp only [List.length_cons, List.length_nil] at hi
      have : i = 0 ∨ i = 1 ∨ i = 2 ∨ i = 3 ∨ i = 4 := by omega
      have key := fun j u hj => new_cells w3 [Value.string (S s), Value.string (S (t ++ [33])), Value.string (S t), Value.string (S ((List.take k t).drop 0 ++ m ++ (t.take t.length).drop k ++ [33])), Value.string (S ((List.take k t).drop 0 ++ m ++ (t.take t.length).drop (min ((k : Int) + m.length) t.length).toNat ++ [33]))] 9 j u hj
      simp only [Addr.add, Nat.zero_add] at key
      rcases this with rfl | rfl | rfl | rfl | rfl
      · exact key 0 _ rfl
      · exact key 1 _ rfl
      · exact key 2 _ rfl
      · exact key 3 _ rfl
      · exact key 4 _ rfl
  have hl4 : w3.heap.size < ((w3.alloc (Obj.cells #[Value.string (S s), Value.string (S t ++ { data := #[33] }), Value.string (S t), Value.string ((S t).extract 0 k ++ S m ++ (S t).extract k t.length ++ { data := #[33] }), Value.string ((S t).extract 0 k ++ S m ++ (S t).extract (min ((k : Int) + m.length) t.length).toNat t.length ++ { data := #[33] })] 9)).drew).heap.size := by show _ < (w3.heap.push _).size; rw [Array.size_push]; omega
  generalize ((w3.alloc (Obj.cells #[Value.string (S s), Value.string (S t ++ { data := #[33] }), Value.string (S t), Value.string ((S t).extract 0 k ++ S m ++ (S t).extract k t.length ++ { data := #[33] }), Value.string ((S t).extract 0 k ++ S m ++ (S t).extract (min ((k : Int) + m.length) t.length).toNat t.length ++ { data := #[33] })] 9)).drew) = w4 at hw4 hxc hl4 ⊢
  have hb14 := hb13.trans (hw4.mono hb13.size)
  have ho4 : ItRow w4 lv (items raw) := ((itrow_of_owns ho).below hb3).below hw4
  have hv4 : ItRow w4 v its := hv.below hb14
  have hg4 : Good w4 := hg.below hb14 hg.2
  have HXC := Lib.hid hxc
  have HXB := Lib.hid hxb
  clear hxc hxb ho hv hr hb1 hb2 hb3 hb12 hb13 hw4
  go_wp2_with fail
  go_loopw [65] (fun i wr => ∃ n : Nat, n ≤ 5 ∧ i = .int .i64 n ∧ Below w4.heap.size w4 wr) (fun i _ => 5 - (intOf i).toNat)
  case atStart => exact ⟨0, by omega, rfl, Below.refl _ _⟩
  case round =>
    obtain ⟨n, hn, rfl, hbr⟩ := hrel
    by_cases hlt : n < 5
    · have hp := (hbr.cell (p := ⟨w3.heap.size, n, none⟩) hl4).trans (HXC.out n (by omega))
      have hxl := HXB.out xs[n] (List.getElem_mem (by omega))
      generalize xs[n] = x at hp hxl
      have hlt' : (n : Int) < 5 := by omega
      go_wp2_with fail
      refine (lex_walk x _ (by omega)).mono ?_
      rintro e w5 ⟨va, rfl, ho5, hb5⟩
      go_wp2_with fail
      refine (rlex_walk x _ (by omega)).mono ?_
      rintro e w6 ⟨vb, rfl, ho6, hb6⟩
      have r5 : ItRow w6 va (lex x).1 := (itrow_of_owns ho5).below hb6
      have r6 := itrow_of_owns ho6
      have hb56 := hbr.trans (hb5.mono hbr.size)
      have hb57 := hb56.trans (hb6.mono hb56.size)
      have hlen : (lex x).1.length ≤ 20001 := lex_len x
      generalize lex x = y at *
      obtain ⟨y1, y2, y3⟩ := y
      dsimp only at *
      go_wp2_with fail
      refine (same_walk _ _ _ _ _ (by omega) (by omega) r5 r6).mono ?_
      rintro e w' ⟨rfl, nn, rfl⟩
      go_wp2_with fail
      exact ⟨⟨n + 1, by omega, by simp, below_drewN hb57 nn⟩, by simp [intOf]; omega⟩
    · have hn5 : n = 5 := by omega
      subst hn5
      have ho7 := ho4.below hbr
      have hv7 := hv4.below hbr
      have hg7 := hg4.below hbr (Nat.le_trans hg4.2 (Nat.le_refl _))
      have hb17 := hb14.trans (hbr.mono hb14.size)
      go_wp2_with fail
      refine (text_walk _ _ _ (by have := items_len raw; omega) hg7 ho7).mono ?_
      rintro e w8 ⟨rfl, hb8⟩
      rw [htt]
      have hv8 := hv7.below hb8
      have hg8 := hg7.below hb8 hg7.2
      have hb18 := hb17.trans (hb8.mono hb17.size)
      go_wp2_with fail
      refine (text_walk _ _ _ hl hg8 hv8).mono ?_
      rintro e w9 ⟨rfl, hb9⟩
      have hv9 := hv8.below hb9
      have hb19 := hb18.trans (hb9.mono hb18.size)
      go_wp2_with fail
      refine (rtext_walk _ _ _ hl hv9).mono ?_
      rintro e w10 ⟨rfl, hb10⟩
      have hb110 := hb19.trans (hb10.mono hb19.size)
      go_wp2
      go_ret
      exact ⟨rfl, hb110⟩
end Go.Proofs.YtnpndkmcgpaibaaDoor
