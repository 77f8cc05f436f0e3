/- Walks of count.Text and token.Text. -/
import Derived.Test.YtnpndkmcgpaibaaDoorF
import Derived.Lib.AppendIntMem
import Derived.Lib.LaidTab
set_option linter.unusedVariables false
namespace Go.Proofs.YtnpndkmcgpaibaaDoor
open Go.RowKit Go.Sort

theorem gPow : Tryd.prog.globalNamed "internal/strconv.uint64pow10" = some 1 := by kernel_rfl
def Good (w : World) : Prop := Lib.TabIs Tryd.prog w "internal/strconv.uint64pow10" .u64 Lib.pow10Tab ∧ 4 ≤ w.heap.size
theorem Good.below {w w' : World} {B : Nat} (h : Good w) (hb : Below B w w') (hB : 4 ≤ B) : Good w' :=
  ⟨var?_below hb gPow (by omega) h.1, Nat.le_trans h.2 hb.size⟩

set_option maxHeartbeats 1000000 in
theorem ctext_any (n : Int) (w : World) (h0 : 0 ≤ n) (h1 : n ≤ 4611686018427387903) (hg : Good w) :
    Calls Tryd.prog 44 #[.int .i64 n] w fun e w' => e = .returned (.string (S (dec n.toNat))) ∧ Below w.heap.size w w' := by
  go_enter Tryd.func44, Tryd.ntmps44
  go_wp2_with fail
  refine (Tryd.strconv_Itoa n (by omega) (by omega) _ hg.1).mono ?_
  rintro e w' ⟨rfl, k, os, rfl⟩
  go_wp2
  go_ret
  refine ⟨?_, Lib.below_grow _ w (Nat.le_refl _) k os⟩
  show Ending.returned (.string ⟨(Lib.itoa n).toArray⟩) = _
  unfold Lib.itoa
  rw [if_neg (by omega)]
  rfl

theorem dec_len (n : Nat) : ∀ k, n < 10 ^ (k + 1) → (dec n).length ≤ k + 1 := by
  intro k
  induction k generalizing n with
  | zero => intro h; rw [dec, Lib.decDigits, dif_pos (by simpa using h)]; simp
  | succ k ih =>
    intro h
    rw [dec, Lib.decDigits]
    split
    · simp
    · have := ih (n / 10) (by rw [Nat.pow_succ] at h; omega)
      simp only [List.length_append, List.length_cons, List.length_nil]
      show (Lib.decDigits (n / 10)).length + _ ≤ _
      have h2 : (Lib.decDigits (n / 10)).length ≤ k + 1 := this
      omega
theorem itText_len (x : It) : (itText x).length ≤ 14 := by
  unfold itText
  split
  · rename_i h
    split
    · have := dec_len x.n.toNat 12 (by have := h.2.2; unfold maxCoord at this; omega)
      simp only [List.length_append, List.length_cons, List.length_nil]; omega
    · simp
  · simp
theorem text_nil : text [] = [] := rfl
theorem text_append (a b : List It) : text (a ++ b) = text a ++ text b := by simp [text]
theorem text_len (l : List It) : (text l).length ≤ 14 * l.length := by
  induction l with
  | nil => simp [text]
  | cons x r ih =>
    have := itText_len x
    simp only [text, List.flatMap_cons, List.length_append, List.length_cons] at *
    omega
theorem text_take (l : List It) (k : Nat) (h : k < l.length) : text (l.take (k + 1)) = text (l.take k) ++ itText l[k] := by
  rw [List.take_succ_eq_append_getElem h, text_append]; simp [text]

theorem mkHid {p : Prop} (h : p) : Hid p := h
theorem isb_below {T e : TypeId} {B b : Nat} {bs : List Value} {w w' : World} (h : Lib.IsBuilderF T e B b bs w) (hb : Below w.heap.size w w') : Lib.IsBuilderF T e B b bs w' := by
  have key : ∀ p, Lib.BuilderAtF T e B b p bs w → Lib.BuilderAtF T e B b p bs w' := by
    rintro p ⟨hB, v, hbk, hown, hne⟩
    refine ⟨hB, v, (hb.block b (Array.getElem?_eq_some_iff.1 hbk).1).trans hbk, ⟨hown.1, ?_⟩, hne⟩
    rcases hown.2 with h2 | ⟨g, cap, cur, fz, hv, hg, hh, r⟩
    · exact .inl h2
    · exact .inr ⟨g, cap, cur, fz, hv, hg, (hb.block g (Array.getElem?_eq_some_iff.1 hh).1).trans hh, r⟩
  rcases h with h | h
  · exact .inl (key _ h)
  · exact .inr (key _ h)
theorem tag_index2 (c : UInt8) : decide (Lib.indexByte tagsS c < 0) = !isTag c := by
  revert c; apply all_u8; decide +kernel
/-- the slice of items that is read -/
def ItRow (w : World) (v : Value) (l : List It) : Prop :=
  ∃ a cap, v = .slice a l.length cap ∧ ∀ i (h : i < l.length), ∃ b o, a = some ⟨b, o, none⟩ ∧ b < w.heap.size ∧
    w.cell? ⟨b, o + i * 3, none⟩ = some (.int .u8 (l[i]).tag.toNat) ∧ w.cell? ⟨b, o + i * 3 + 1, none⟩ = some (.int .i64 (l[i]).n) ∧ w.cell? ⟨b, o + i * 3 + 2, none⟩ = some (.int .i64 (l[i]).at_)
theorem ItRow.below {w w' : World} {v : Value} {l : List It} (h : ItRow w v l) (hb : Below w.heap.size w w') : ItRow w' v l := by
  obtain ⟨a, cap, rfl, h⟩ := h
  refine ⟨a, cap, rfl, fun i hi => ?_⟩
  obtain ⟨b, o, ha, hlt, h0, h1, h2⟩ := h i hi
  exact ⟨b, o, ha, Nat.lt_of_lt_of_le hlt hb.size, (hb.cell (p := ⟨b, _, none⟩) hlt).trans h0, (hb.cell (p := ⟨b, _, none⟩) hlt).trans h1, (hb.cell (p := ⟨b, _, none⟩) hlt).trans h2⟩

def TextPost (l : List It) (w : World) (e : Ending) (w' : World) : Prop := e = .returned (.string (S (text l))) ∧ Below w.heap.size w w'

set_option maxHeartbeats 4000000 in
theorem text_walk (v : Value) (l : List It) (w : World) (hl : l.length * 24 ≤ 140737488351232) (hg : Good w) (hv : ItRow w v l) :
    Calls Tryd.prog 21 #[v] w (TextPost l w) := by
  obtain ⟨a, cap, rfl, hcs⟩ := hv
  have HC : Hid _ := hcs
  clear hcs
  go_enter Tryd.func21, Tryd.ntmps21
  go_wp2
  go_loopw [8] (fun i wr => ∃ k : Nat, k ≤ l.length ∧ i = .int .i64 k ∧ Lib.IsBuilderF 80 5 w.heap.size w.heap.size (Lib.byteCells (text (l.take k))) wr ∧ Below w.heap.size w wr) (fun i _ => l.length - (intOf i).toNat)
  case atStart =>
    exact ⟨0, Nat.zero_le _, rfl, Lib.IsBuilderF.of (Lib.fresh_isBuilder 80 5 w), (Below.refl _ w).alloc (Nat.le_refl _) _⟩
  case round =>
    obtain ⟨k, hk, rfl, hI, hbw⟩ := hrel
    have hs := hbw.size
    by_cases hlt : k < l.length
    · obtain ⟨b, o, rfl, hbs, q0, q1, q2⟩ := HC.out k hlt
      have p0 := (hbw.cell (p := ⟨b, o + k * 3, none⟩) hbs).trans q0
      have p1 := (hbw.cell (p := ⟨b, o + k * 3 + 1, none⟩) hbs).trans q1
      have p2 := (hbw.cell (p := ⟨b, o + k * 3 + 2, none⟩) hbs).trans q2
      have hstep := text_take l k hlt
      generalize l[k] = x at *
      have HS : Hid _ := hstep
      clear hstep q0 q1 q2
      have hgr : Good wr := hg.below hbw hg.2
      have hwX : w.heap.size < (wr.alloc (Obj.cells #[Value.int IntKind.u8 x.tag.toNat, Value.int IntKind.i64 x.n, Value.int IntKind.i64 x.at_] 37)).heap.size := by simp; omega
      have hX : XB (wr.alloc (Obj.cells #[Value.int IntKind.u8 x.tag.toNat, Value.int IntKind.i64 x.n, Value.int IntKind.i64 x.at_] 37)) wr.heap.size x.tag.toNat x.n x.at_ := heap_alloc_new wr _
      have hI1 := hI.alloc (Obj.cells #[Value.int IntKind.u8 x.tag.toNat, Value.int IntKind.i64 x.n, Value.int IntKind.i64 x.at_] 37)
      have hbw1 := hbw.alloc hs (Obj.cells #[Value.int IntKind.u8 x.tag.toNat, Value.int IntKind.i64 x.n, Value.int IntKind.i64 x.at_] 37)
      have hgr1 : Good (wr.alloc (Obj.cells #[Value.int IntKind.u8 x.tag.toNat, Value.int IntKind.i64 x.n, Value.int IntKind.i64 x.at_] 37)) := hg.below hbw1 hg.2
      have hstr : w.heap.size < wr.heap.size := by rcases hI with h | h <;> exact h.lt
      have htl := text_len (l.take k)
      rw [List.length_take] at htl
      have hi := tag_index2 x.tag
      generalize hxi : Lib.indexByte tagsS x.tag = xi at *
      have HX : Hid _ := hxi
      clear hxi
      cases htag : isTag x.tag with
      | false =>
        have HT : Hid (text (l.take (k + 1)) = text (l.take k)) := mkHid (by rw [HS.out, itText, if_neg (by rw [htag]; simp), List.append_nil])
        rw [htag] at hi
        go_wp2_with (go_at_call 42; refine (indexTag x.tag _).mono ?_; rw [HX.out]; rintro e w' ⟨rfl, rfl⟩)
        go_roundw
        case rel => exact ⟨k + 1, by omega, by go_num, by rw [HT.out]; exact hI1, hbw1⟩
        case measure => simp [intOf]; omega
      | true =>
        rw [htag] at hi
        have HG : Hid _ := htag
        clear htag
        by_cases hlo : x.n < 1
        · have HT : Hid (text (l.take (k + 1)) = text (l.take k)) := mkHid (by rw [HS.out, itText, if_neg (by omega), List.append_nil])
          go_wp2_with (go_at_call 42; refine (indexTag x.tag _).mono ?_; rw [HX.out]; rintro e w' ⟨rfl, rfl⟩)
          go_roundw
          case rel => exact ⟨k + 1, by omega, by go_num, by rw [HT.out]; exact hI1, hbw1⟩
          case measure => simp [intOf]; omega
        · by_cases hhi : 1099511627776 < x.n
          · have HT : Hid (text (l.take (k + 1)) = text (l.take k)) := mkHid (by rw [HS.out, itText, if_neg (by unfold maxCoord; omega), List.append_nil])
            go_wp2_with (go_at_call 42; refine (indexTag x.tag _).mono ?_; rw [HX.out]; rintro e w' ⟨rfl, rfl⟩)
            go_roundw
            case rel => exact ⟨k + 1, by omega, by go_num, by rw [HT.out]; exact hI1, hbw1⟩
            case measure => simp [intOf]; omega
          · by_cases hone : 1 < x.n
            · have HT : Hid (text (l.take (k + 1)) = text (l.take k) ++ dec x.n.toNat ++ [x.tag]) := mkHid (by
                rw [HS.out, itText, if_pos ⟨HG.out, by omega, by unfold maxCoord; omega⟩, if_pos hone, List.append_assoc])
              have hdl := dec_len x.n.toNat 12 (by omega)
              go_wp2_with (go_at_call 42; refine (indexTag x.tag _).mono ?_; rw [HX.out]; rintro e w' ⟨rfl, rfl⟩)
              refine (ctext_any x.n _ (by omega) (by omega) hgr1).mono ?_
              rintro e w2 ⟨rfl, hb2⟩
              have hI2 := isb_below hI1 hb2
              have hX2 := hX.below hb2 hX.lt
              have hbw2 : Below w.heap.size w w2 := hbw1.trans (hb2.mono (Nat.le_of_lt hwX))
              have hs2 := hbw2.size
              have hX2lt := hX2.lt
              clear hI1 hX hbw1 hgr1 hb2 hI hbw p0 p1 p2 hgr hwX
              go_wp2_with fail
              refine (WriteString_k w.heap.size w.heap.size _ (S (dec x.n.toNat)) _ hI2 (by rw [Lib.byteCells_length, S_size]; omega) hs2).mono ?_
              rintro e w3 ⟨rfl, hI3, hb3, hk3⟩
              have hX3 : XB w3 wr.heap.size x.tag.toNat x.n x.at_ := hk3 _ _ hX2 (by simp; omega) (by intro c fz h; cases h)
              have hbw3 : Below w.heap.size w w3 := hbw2.trans hb3
              have hs3 := hbw3.size
              have d0 := hX3.c0
              clear hI2 hX2 hbw2 hb3 hk3 hs2 hX2lt
              go_wp2_with fail
              refine (WriteByte_k w.heap.size w.heap.size _ x.tag.toNat _ (.inr hI3) (by simp only [List.length_append, Lib.byteCells_length, Lib.strCells_length, S_size]; omega) hs3).mono ?_
              rintro e w4 ⟨rfl, hI4, hb4, hk4⟩
              have hbw4 : Below w.heap.size w w4 := hbw3.trans hb4
              have hI5 : Lib.IsBuilderF 80 5 w.heap.size w.heap.size (Lib.byteCells (text (l.take (k + 1)))) w4 := by
                rw [HT.out, Lib.byteCells_append, Lib.byteCells_append]
                exact .inr hI4
              clear hI4 hb4 hk4 hbw3 hI3 hX3 d0
              go_wp2
              go_roundw
              case rel => exact ⟨k + 1, by omega, by go_num, hI5, hbw4⟩
              case measure => simp [intOf]; omega
            · have HT : Hid (text (l.take (k + 1)) = text (l.take k) ++ [x.tag]) := mkHid (by
                rw [HS.out, itText, if_pos ⟨HG.out, by omega, by unfold maxCoord; omega⟩, if_neg hone, List.nil_append])
              have hs1 := hbw1.size
              go_wp2_with (go_at_call 42; refine (indexTag x.tag _).mono ?_; rw [HX.out]; rintro e w' ⟨rfl, rfl⟩)
              refine (WriteByte_k w.heap.size w.heap.size _ x.tag.toNat _ hI1 (by simp only [Lib.byteCells_length]; omega) hs1).mono ?_
              rintro e w4 ⟨rfl, hI4, hb4, hk4⟩
              have hbw4 : Below w.heap.size w w4 := hbw1.trans hb4
              have hI5 : Lib.IsBuilderF 80 5 w.heap.size w.heap.size (Lib.byteCells (text (l.take (k + 1)))) w4 := by
                rw [HT.out, Lib.byteCells_append]
                exact .inr hI4
              clear hI4 hb4 hk4 hbw1 hI1
              go_wp2
              go_roundw
              case rel => exact ⟨k + 1, by omega, by go_num, hI5, hbw4⟩
              case measure => simp [intOf]; omega
    · have : k = l.length := by omega
      subst this
      rw [List.take_length] at hI
      go_wp2_with (go_at_call 46; refine (Tryd.Builder_String_any_k w.heap.size w.heap.size _ _ hI hs).mono ?_)
      rintro e w' ⟨rfl, _, hb2, _⟩
      go_wp2
      go_ret
      exact ⟨rfl, hbw.trans hb2⟩
end Go.Proofs.YtnpndkmcgpaibaaDoor
