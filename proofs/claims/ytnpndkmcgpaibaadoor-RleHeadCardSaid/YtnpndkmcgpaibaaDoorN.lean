/- The walk of chapter 4's law TokenEnds. -/
import Derived.Test.YtnpndkmcgpaibaaDoorL
import Derived.Test.YtnpndkmcgpaibaaDoorM
import Derived.BigRegion
import Derived.Deep.RegionWith
import Derived.Laws.OwnMore
set_option linter.unusedVariables false
namespace Go.Proofs.YtnpndkmcgpaibaaDoor
open Go.RowKit Go.Sort

theorem mkIt_valid (p : Int × Int) : valid (mkIt p) := by
  have h1 := pickI_nonneg p.2 (n := 1099511627776) (by omega)
  have h2 := pickI_lt p.2 (n := 1099511627776) (by omega)
  have h3 := pickI_nonneg p.2 (n := 5) (by omega)
  have h4 := pickI_lt p.2 (n := 5) (by omega)
  unfold mkIt valid maxCoord
  dsimp only
  refine ⟨?_, ?_, ?_⟩
  · split
    · decide
    · split <;> decide
  · split <;> omega
  · split <;> omega
theorem items_valid (raw : List (Int × Int)) : ∀ x ∈ items raw, valid x := by
  intro x hx
  obtain ⟨p, _, rfl⟩ := List.mem_map.1 hx
  exact mkIt_valid p

/-- one field of one item set -/
theorem itCells_set (l : List It) (k j : Nat) (u : Value) (y : It) (h : k < l.length) (hj : j < 3) (hy : (itCell l[k]).set j u = itCell y) : (itCells l).set (k * 3 + j) u = itCells (l.set k y) := by
  induction l generalizing k with
  | nil => simp at h
  | cons x r ih =>
    cases k with
    | zero =>
      show (itCell x ++ itCells r).set (0 * 3 + j) u = itCell y ++ itCells r
      rw [List.set_append_left _ _ (by simp [itCell]; omega), ← hy]
      simp
    | succ k =>
      show (itCell x ++ itCells r).set ((k + 1) * 3 + j) u = itCell x ++ itCells (r.set k y)
      rw [List.set_append_right _ _ (by simp [itCell]; omega)]
      congr 1
      rw [show (k + 1) * 3 + j - (itCell x).length = k * 3 + j from by simp [itCell]; omega]
      exact ih k (by simpa using h) hy
theorem mixed_set {α : Type} (f : α → α) (l : List α) (k : Nat) (h : k < l.length) : ((l.take k).map f ++ l.drop k).set k (f l[k]) = (l.take (k + 1)).map f ++ l.drop (k + 1) := by
  rw [List.set_append_right _ _ (by simp; omega)]
  simp only [List.length_map, List.length_take, Nat.min_eq_left (Nat.le_of_lt h), Nat.sub_self]
  rw [List.drop_eq_getElem_cons h, List.set_cons_zero, List.take_succ_eq_append_getElem h, List.map_append]
  simp
theorem mixed_get {α : Type} (f : α → α) (l : List α) (k : Nat) (h : k < l.length) (h2 : k < ((l.take k).map f ++ l.drop k).length) : ((l.take k).map f ++ l.drop k)[k] = l[k] := by
  rw [List.getElem_append_right (by simp; omega)]
  simp [Nat.min_eq_left (Nat.le_of_lt h)]
def one (x : It) : It := { x with n := 1 }
theorem one_text {x : It} (h : valid x) : itText (one x) = [x.tag] := by
  have h1 : isTag (one x).tag = true ∧ 1 ≤ (one x).n ∧ (one x).n ≤ maxCoord := ⟨h.1, by simp [one], by simp [one, maxCoord]⟩
  rw [itText, if_pos h1]
  simp [one]
theorem one_valid {x : It} (h : valid x) : valid (one x) := ⟨h.1, by simp [one], by simp [one, maxCoord]⟩
theorem ones_text {l : List It} (h : ∀ x ∈ l, valid x) : text (l.map one) = l.map (·.tag) := by
  induction l with
  | nil => rfl
  | cons x r ih =>
    rw [List.map_cons, List.map_cons, ← ih (fun y hy => h y (List.mem_cons_of_mem _ hy))]
    show itText (one x) ++ text (r.map one) = _
    rw [one_text (h x (List.mem_cons_self ..))]
    rfl
theorem ones_valid {l : List It} (h : ∀ x ∈ l, valid x) : ∀ x ∈ l.map one, valid x := by
  intro x hx
  obtain ⟨y, hy, rfl⟩ := List.mem_map.1 hx
  exact one_valid (h y hy)
def badS : List UInt8 := [97, 99, 110, 35, 37, 46, 61, 66, 79, 63]
theorem bad_get (x : Int) (h0 : 0 ≤ x) (h1 : x < 10) : ∃ c : UInt8, (∀ h, (⟨#[97, 99, 110, 35, 37, 46, 61, 66, 79, 63]⟩ : ByteArray)[x.toNat]'h = c) ∧ isBlank c = false ∧ isDigit c = false ∧ isTag c = false ∧ c ≠ 33 := by
  have : x = 0 ∨ x = 1 ∨ x = 2 ∨ x = 3 ∨ x = 4 ∨ x = 5 ∨ x = 6 ∨ x = 7 ∨ x = 8 ∨ x = 9 := by omega
  rcases this with rfl | rfl | rfl | rfl | rfl | rfl | rfl | rfl | rfl | rfl <;> exact ⟨_, fun h => rfl, by decide, by decide, by decide, by decide⟩

theorem lex_callS {sb : ByteArray} {l : List UInt8} {its : List It} {a b : Int} (hs : sb = S l) (h : lex l = (its, a, b)) (hl : l.length ≤ 9223372036854775807) (w : World) :
    Calls Tryd.prog 18 #[.string sb] w fun e w' => ∃ v, e = .returned (.tuple #[v, .int .i64 a, .int .i64 b]) ∧ w'.ownsRow w.heap.size 37 3 v its.length (itCells its) ∧ Below w.heap.size w w' := by
  subst hs
  refine (lex_walk l w hl).mono ?_
  rintro e w' ⟨v, h1, h2, h3⟩
  rw [h] at h1 h2
  exact ⟨v, h1, h2, h3⟩

set_option maxHeartbeats 8000000 in
set_option maxRecDepth 100000 in
theorem ends_walk (m : List UInt8) (rv : Value) (raw : List (Int × Int)) (c at_ : Int) (w : World) (hg : Good w) (hr : RawRow w rv raw)
    (hm : m.length ≤ 140737488351232) (hrl : raw.length ≤ 140737488351232)
    (hc0 : -9223372036854775808 ≤ c) (hc1 : c ≤ 9223372036854775807) (ha0 : -9223372036854775808 ≤ at_) (ha1 : at_ ≤ 9223372036854775807) :
    Calls Tryd.prog 7 #[rv, .string (S m), .int .i64 c, .int .i64 at_] w fun e w' => e = .returned (.bool true) ∧ Below w.heap.size w w' := by
  go_enter Tryd.func7, Tryd.ntmps7
  go_wp2_with fail
  refine (awake_walk _ hg).mono ?_
  rintro e w1 ⟨rfl, hb1⟩
  go_wp2_with fail
  refine (items_walk _ raw _ (by omega) (hr.below hb1)).mono ?_
  rintro e w2 ⟨lv, rfl, ho, hb2⟩
  have hb12 := hb1.trans (hb2.mono hb1.size)
  have hn := items_len raw
  have HVL := Lib.hid (items_valid raw)
  have ho2 := owns_mono ho hb1.size
  clear ho hr hb1 hb2
  generalize items raw = its at *
  go_wp2_with fail
  go_loopw [11] (fun i wr => ∃ k : Nat, k ≤ its.length ∧ i = .int .i64 k ∧ wr.ownsRow w.heap.size 37 3 lv its.length (itCells ((its.take k).map one ++ its.drop k)) ∧ Below w.heap.size w wr) (fun i _ => its.length - (intOf i).toNat)
  case atStart => exact ⟨0, Nat.zero_le _, rfl, by simpa using ho2, hb12⟩
  case round =>
    obtain ⟨k, hk, rfl, hown, hbw⟩ := hrel
    by_cases hlt : k < its.length
    · rcases hown.2 with ⟨rfl, h0⟩ | ⟨g, cap, cur, rfl, hbg, hh, hc, hmx, hs, ht⟩
      · omega
      · have hst := hown.stored (k * 3 + 1) (.int .i64 1)
        have hcell := hown.cellAt (k * 3 + 1) (by omega)
        have hfz := hown.frozenAt (k * 3 + 1)
        rw [itCells_get _ k 1 (by simp; omega) (by omega), mixed_get _ _ _ hlt] at hcell
        replace hcell : wr.cell? ⟨g, k * 3 + 1, none⟩ = some (.int .i64 its[k].n) := hcell
        rw [itCells_set _ k 1 _ (one its[k]) (by simp; omega) (by omega) (by rw [mixed_get _ _ _ hlt]; rfl), mixed_set _ _ _ hlt] at hst
        have HST := Lib.hid hst
        have hlt' : (k : Int) < its.length := by omega
        clear hst hown hh hs ht
        generalize its[k] = x at hcell
        go_wp2
        exact ⟨⟨k + 1, by omega, by simp, HST.out.1, below_grown1 hbw HST.out.2 hbg hbw.size⟩, by simp [intOf]; omega⟩
    · have hkl : k = its.length := by omega
      subst hkl
      rw [List.take_length, List.drop_length, List.append_nil] at hown
      have hown' : wr.ownsRow w.heap.size 37 3 lv (its.map one).length (itCells (its.map one)) := by rw [List.length_map]; exact hown
      have hval := ones_valid HVL.out
      have htx := ones_text HVL.out
      have hrow := itrow_of_owns hown'
      have hll : (its.map one).length = its.length := by rw [List.length_map]
      have hgr := hg.below hbw hg.2
      have hlen : (text (its.map one)).length = its.length := by rw [htx, List.length_map]
      have HSP := Lib.hid (show ∀ k, text ((its.map one).take k) = (text (its.map one)).take k from fun k => by
        rw [htx, ← List.map_take, ones_text (fun x hx => HVL.out x (List.mem_of_mem_take hx)), List.map_take])
      clear ho2 hown hown' htx
      generalize its.map one = jts at *
      have hrow2 := hrow
      obtain ⟨a, cap, rfl, -⟩ := hrow2
      rw [hll] at hrow ⊢
      go_wp2_with fail
      refine (text_walk _ _ _ (by omega) hgr hrow).mono ?_
      rintro e w4 ⟨rfl, hb4⟩
      have hb14 := hbw.trans (hb4.mono hbw.size)
      have hts := S_size (text jts)
      have h33 := S_size [33]
      rw [hlen] at hts
      go_wp2_with fail
      have hbv := bvalid_bare hval
      have hbt := btext_bare jts
      have L1 := lex_told (bare jts) [] hbv (by rw [hbt]; simp; omega)
      rw [hbt] at L1
      refine (lex_callS (l := text jts ++ [33]) (S_append _ _) L1 (by simp; omega) _).mono ?_
      rintro e w5 ⟨va, rfl, ho5, hb5⟩
      have hb15 := hb14.trans (hb5.mono hb14.size)
      have hms := S_size m
      have hmm0 : (0 : Int) ≤ min (m.length : Int) 1000 := by omega
      have hmm1 : min (m.length : Int) 1000 ≤ m.length := by omega
      obtain ⟨mm, hmm⟩ : ∃ mm : Nat, min (m.length : Int) 1000 = mm := ⟨_, (Int.toNat_of_nonneg hmm0).symm⟩
      have hmm2 : mm ≤ 1000 := by omega
      have hmm3 : mm ≤ m.length := by omega
      go_wp2_with fail
      have L2 := lex_told (bare jts) (m.take mm) hbv (by rw [hbt]; simp; omega)
      rw [hbt] at L2
      refine (lex_callS (l := text jts ++ 33 :: m.take mm) ?hs1 L2 (by simp; omega) _).mono ?_
      case hs1 =>
        rw [show (⟨#[33]⟩ : ByteArray) = S [33] from rfl]
        simp only [S_extract, S_append, List.drop_zero, List.append_assoc, List.singleton_append]
      rintro e w6 ⟨vb, rfl, ho6, hb6⟩
      have hb16 := hb15.trans (hb6.mono hb15.size)
      go_wp2_with fail
      refine (pick_any _ _ _ (by omega) (by omega) (by omega) (by omega)).mono ?_
      rintro e w' ⟨rfl, rfl⟩
      have k0 := pickI_nonneg c (n := 10) (by omega)
      have k1 := pickI_lt c (n := 10) (by omega)
      obtain ⟨x, hx, x1, x2, x3, x4⟩ := bad_get (pickI c 10) k0 k1
      go_wp2_with fail
      refine (pick_any _ _ _ (by omega) (by omega) (by omega) (by omega)).mono ?_
      rintro e w' ⟨rfl, rfl⟩
      have q0 := pickI_nonneg at_ (n := (its.length : Int) + 1) (by omega)
      have q1 := pickI_lt at_ (n := (its.length : Int) + 1) (by omega)
      obtain ⟨k, hk⟩ : ∃ k : Nat, pickI at_ ((its.length : Int) + 1) = k := ⟨_, (Int.toNat_of_nonneg q0).symm⟩
      rw [hk] at q0 q1 ⊢
      have hkt : k ≤ its.length := by omega
      have hkt' : (k : Int) ≤ its.length := by omega
      clear hk q0 q1 hx k0 k1
      have hlk : ((text jts).take k).length = k := by rw [List.length_take]; omega
      have L3 := lex_told_bad (bare (jts.take k)) x ((text jts).drop k ++ [33]) (bvalid_bare fun y hy => hval y (List.mem_of_mem_take hy)) x1 x2 x3 x4 (by rw [btext_bare, HSP.out]; simp; omega)
      rw [btext_bare, HSP.out, hlk] at L3
      have HL3 := Lib.hid L3
      have r5 : ItRow w6 va (place 0 (bare jts)) := (itrow_of_owns ho5).below hb6
      have r6 := itrow_of_owns ho6
      have hpl : (place 0 (bare jts)).length ≤ 40 := by rw [place_length]; simp [bare]; omega
      clear L1 L2 L3 ho5 ho6
      have hxs := S_size [x]
      have hcv : (convert 41 9 (Value.slice (some { block := w6.heap.size, off := 0 }) 1 1)).run Tryd.prog (w6.alloc (Obj.cells #[Value.int IntKind.u8 x.toNat] 5)).drew = .ok (.string (S [x])) (w6.alloc (Obj.cells #[Value.int IntKind.u8 x.toNat] 5)).drew := byte_string w6.drew x x.toNat rfl
      have HS2 : Hid ((S (text jts)).extract 0 k ++ S [x] ++ (S (text jts)).extract k its.length ++ ⟨#[33]⟩ = S ((text jts).take k ++ x :: ((text jts).drop k ++ [33]))) := mkHid (by
        rw [show (⟨#[33]⟩ : ByteArray) = S [33] from rfl]
        simp only [S_extract, S_append]
        rw [List.take_of_length_le (Nat.le_of_eq hlen)]
        simp)
      have HL4 : Hid (((text jts).take k ++ x :: ((text jts).drop k ++ [33])).length ≤ 9223372036854775807) := mkHid (by simp; omega)
      go_wp2_with fail
      go_region_with (go_at_call 18; refine (lex_callS HS2.out HL3.out HL4.out _).mono ?_; rintro e w7 ⟨vc, rfl, ho7, hb7⟩)
      have hba : Below w6.heap.size w6 (w6.alloc (Obj.cells #[Value.int IntKind.u8 x.toNat] 5)).drew := ((Below.refl _ w6).alloc (Nat.le_refl _) _).drew
      have r5' := (r5.below hba).below hb7
      have r6' := (r6.below hba).below hb7
      have hb17 := (hb16.trans (hba.mono hb16.size)).trans (hb7.mono (Nat.le_trans hb16.size hba.size))
      clear hcv r5 r6 hba hb7 ho7 hb16
      go_wp2_with fail
      refine (same_walk _ _ _ _ _ (by omega) (by omega) r5' r6').mono ?_
      rintro e w' ⟨rfl, nn, rfl⟩
      go_wp2
      go_ret
      exact ⟨rfl, below_drewN hb17 nn⟩
end Go.Proofs.YtnpndkmcgpaibaaDoor
