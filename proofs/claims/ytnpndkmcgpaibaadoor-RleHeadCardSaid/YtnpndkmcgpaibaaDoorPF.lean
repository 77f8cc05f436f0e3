/- Plain: sets are right; what is put, shifted, parsed. No walk in this text. -/
import Derived.Test.YtnpndkmcgpaibaaDoorPE
import Derived.Test.YtnpndkmcgpaibaaDoorCJ
import Derived.Test.YtnpndkmcgpaibaaDoorPC
set_option linter.unusedVariables false
namespace Go.Proofs.YtnpndkmcgpaibaaDoor
open Go.RowKit

theorem less_iff {a b : Int × Int} : lessB a b = true ↔ a.2 < b.2 ∨ a.2 = b.2 ∧ a.1 < b.1 := by unfold lessB; rw [decide_eq_true_eq]
theorem less_trans {a b c : Int × Int} (h : lessB a b = true) (k : lessB b c = true) : lessB a c = true := by
  rw [less_iff] at *; omega
theorem less_irr (a : Int × Int) : lessB a a = false := by
  rw [Bool.eq_false_iff]; intro h; rw [less_iff] at h; omega
theorem less_tri {a b : Int × Int} (h : lessB a b = false) (k : a ≠ b) : lessB b a = true := by
  rw [Bool.eq_false_iff] at h
  rw [Ne, less_iff] at h
  rw [less_iff]
  have : ¬ (a.1 = b.1 ∧ a.2 = b.2) := fun e => k (Prod.ext e.1 e.2)
  omega
def Srt (l : List (Int × Int)) : Prop := l.Pairwise (fun a b => lessB a b = true)
theorem right_of {l : List (Int × Int)} (hb : ∀ x ∈ l, inB x = true) (hs : Srt l) (hl : l.length ≤ 2000) : rightB l = true := by
  unfold rightB
  rw [Bool.and_eq_true]
  refine ⟨List.all_eq_true.2 fun i hi => ?_, by simpa using hl⟩
  have hil := List.mem_range.1 hi
  unfold okAt
  rw [getD_at _ _ _ hil, hb _ (List.getElem_mem hil), Bool.true_and]
  cases i with
  | zero => rfl
  | succ j =>
    rw [Nat.add_sub_cancel, getD_at _ _ j (by omega)]
    have := List.pairwise_iff_getElem.1 hs j (j + 1) (by omega) hil (by omega)
    rw [this]; simp
theorem right_srt {l : List (Int × Int)} (h : rightB l = true) : Srt l := by
  have key : ∀ d i, ∀ hj : i + d + 1 < l.length, lessB l[i] l[i + d + 1] = true := by
    intro d
    induction d with
    | zero => intro i hj; exact right_step h i hj
    | succ d ih => intro i hj; exact less_trans (ih i (by omega)) (right_step h (i + d + 1) hj)
  refine List.pairwise_iff_getElem.2 fun i j hi hj hij => ?_
  have := key (j - i - 1) i (by omega)
  have e : i + (j - i - 1) + 1 = j := by omega
  simp only [e] at this
  exact this
theorem right_inB {l : List (Int × Int)} (h : rightB l = true) (x : Int × Int) (hx : x ∈ l) : inB x = true := by
  obtain ⟨i, hi, rfl⟩ := List.getElem_of_mem hx
  have := right_in h i hi
  unfold inB; rw [decide_eq_true_eq]; exact this

/-! ### put -/
theorem put_done (c : Int × Int) : ∀ (l o : List (Int × Int)), l.foldl (putStep c) (o, true) = (o ++ l.filter (fun x => !(x == c)), true)
  | [], o => by simp
  | x :: r, o => by
    rw [List.foldl_cons]
    have : putStep c (o, true) x = (o ++ [x].filter (fun x => !(x == c)), true) := by
      unfold putStep
      by_cases h : (x == c) = true
      · simp [h]
      · simp [h]
    rw [this, put_done c r]
    simp [List.filter_cons]
    split <;> simp
theorem put_open (c : Int × Int) : ∀ (l o : List (Int × Int)), (if (l.foldl (putStep c) (o, false)).2 then (l.foldl (putStep c) (o, false)).1 else (l.foldl (putStep c) (o, false)).1 ++ [c]) =
    o ++ (l.takeWhile (fun x => lessB x c) ++ c :: (l.dropWhile (fun x => lessB x c)).filter (fun x => !(x == c)))
  | [], o => by simp
  | x :: r, o => by
    rw [List.foldl_cons]
    by_cases h : lessB x c = true
    · have hxc : (x == c) = false := by
        rw [beq_eq_false_iff_ne]; rintro rfl; rw [less_irr] at h; cases h
      have hcx : lessB c x = false := by
        rw [Bool.eq_false_iff]; intro h2
        have := less_trans h h2; rw [less_irr] at this; cases this
      have : putStep c (o, false) x = (o ++ [x], false) := by unfold putStep; simp [hxc, hcx]
      rw [this, put_open c r]
      simp [h]
    · have h' : lessB x c = false := by simpa using h
      have hor : (x == c || lessB c x) = true := by
        by_cases he : x = c
        · simp [he]
        · rw [less_tri h' he]; simp
      have : putStep c (o, false) x = (o ++ [c] ++ [x].filter (fun x => !(x == c)), true) := by
        unfold putStep
        by_cases he : (x == c) = true
        · simp [he]
        · have he' : (x == c) = false := by simpa using he
          rw [he'] at hor
          simp only [Bool.false_or] at hor
          simp [he', hor]
      rw [this, put_done c r]
      simp only [if_true]
      rw [List.takeWhile_cons_of_neg (by simp [h']), List.dropWhile_cons_of_neg (by simp [h'])]
      simp [List.filter_cons]
      split <;> simp
theorem putL_eq (l : List (Int × Int)) (c : Int × Int) : putL l c = l.takeWhile (fun x => lessB x c) ++ c :: (l.dropWhile (fun x => lessB x c)).filter (fun x => !(x == c)) := by
  have := put_open c l []
  rw [List.nil_append] at this
  exact this
theorem put_srt {l : List (Int × Int)} (h : Srt l) (c : Int × Int) : Srt (putL l c) := by
  rw [putL_eq]
  have hsplit : l = l.takeWhile (fun x => lessB x c) ++ l.dropWhile (fun x => lessB x c) := (List.takeWhile_append_dropWhile).symm
  have h1 := h
  rw [hsplit] at h1
  have h2 := List.pairwise_append.1 h1
  have hlow : ∀ x ∈ l.takeWhile (fun x => lessB x c), lessB x c = true := fun x hx => by
    have := List.all_eq_true.1 (List.all_takeWhile (l := l) (p := fun x => lessB x c)) x hx
    simpa using this
  have hhigh : ∀ x ∈ (l.dropWhile (fun x => lessB x c)).filter (fun x => !(x == c)), lessB c x = true := fun x hx => by
    obtain ⟨hx1, hx2⟩ := List.mem_filter.1 hx
    have hne : x ≠ c := by simpa using hx2
    cases hd : l.dropWhile (fun x => lessB x c) with
    | nil => rw [hd] at hx1; simp at hx1
    | cons y r =>
      have hy : lessB y c = false := by
        have := List.head_dropWhile_not (fun x => lessB x c) (l := l) (by rw [hd]; simp)
        simp only [hd, List.head_cons] at this
        simpa using this
      rw [hd] at hx1
      have hlt : x = y ∨ lessB y x = true := by
        rcases List.mem_cons.1 hx1 with e | e
        · exact .inl e
        · right
          have := h2.2.1
          rw [hd] at this
          exact (List.pairwise_cons.1 this).1 x e
      refine less_tri ?_ hne
      rw [Bool.eq_false_iff]
      intro hxc
      rcases hlt with rfl | e
      · rw [hy] at hxc; cases hxc
      · have := less_trans e hxc; rw [hy] at this; cases this
  refine List.pairwise_append.2 ⟨h2.1, List.pairwise_cons.2 ⟨hhigh, h2.2.1.sublist (List.filter_sublist)⟩, fun a ha b hb => ?_⟩
  rcases List.mem_cons.1 hb with rfl | hb
  · exact hlow a ha
  · exact less_trans (hlow a ha) (hhigh b hb)
theorem set_srt (raw : List (Int × Int)) : Srt (setP raw) := by
  have key : ∀ (l o : List (Int × Int)), Srt o → Srt (l.foldl (fun l p => putL l (cellOf p)) o) := by
    intro l
    induction l with
    | nil => intro o h; exact h
    | cons a r ih => intro o h; exact ih _ (put_srt h _)
  exact key _ [] List.Pairwise.nil
theorem far_srt (raw : List (Int × Int)) (far : Int) : Srt (farP raw far) := by
  unfold farP
  generalize (setP raw).length = k
  induction k with
  | zero => exact List.Pairwise.nil
  | succ k ih => rw [farFold_succ]; exact put_srt ih _
theorem far_mem (raw : List (Int × Int)) (far : Int) : ∀ x ∈ farP raw far, -800000 ≤ x.1 ∧ x.1 ≤ 800000 ∧ -8000000 ≤ x.2 ∧ x.2 ≤ 8000000 := by
  have key : ∀ k, k ≤ (setP raw).length → ∀ x ∈ farFold far (setP raw) k, -800000 ≤ x.1 ∧ x.1 ≤ 800000 ∧ -8000000 ≤ x.2 ∧ x.2 ≤ 8000000 := by
    intro k
    induction k with
    | zero => intro _ x hx; simp [farFold] at hx
    | succ k ih =>
      intro hk x hx
      rw [farFold_succ] at hx
      rcases put_mem _ _ _ hx with rfl | hx
      · have := set_mem raw (setP raw)[k] (List.getElem_mem (by omega))
        rw [getD_at _ _ _ (by omega)]
        unfold farCell
        split <;> (try dsimp only) <;> omega
      · exact ih (by omega) x hx
  exact key _ (Nat.le_refl _)
theorem inB_of {x : Int × Int} (h0 : -1099511627776 ≤ x.1) (h1 : x.1 ≤ 1099511627776) (h2 : -1099511627776 ≤ x.2) (h3 : x.2 ≤ 1099511627776) : inB x = true := by
  unfold inB; rw [decide_eq_true_eq]; exact ⟨h0, h1, h2, h3⟩
theorem far_right (raw : List (Int × Int)) (far : Int) : rightB (farP raw far) = true :=
  right_of (fun x hx => by have := far_mem raw far x hx; exact inB_of (by omega) (by omega) (by omega) (by omega)) (far_srt raw far) (by have := farP_len raw far; omega)

/-! ### what is parsed is right -/
structure PenS (p : Pen) : Prop where
  srt : Srt p.out
  low : ∀ c ∈ p.out, lessB c (p.x, p.y) = true
  inb : ∀ c ∈ p.out, 0 ≤ c.1 ∧ c.1 + 1 ≤ 1099511627776 ∧ 0 ≤ c.2 ∧ c.2 ≤ 1099511627776
theorem row_mem {x y : Int} {n : Nat} {c : Int × Int} (h : c ∈ rowOf x y n) : x ≤ c.1 ∧ c.1 < x + n ∧ c.2 = y := by
  obtain ⟨k, hk, rfl⟩ := List.mem_map.1 h
  have := List.mem_range.1 hk
  dsimp only
  omega
theorem row_srt (x y : Int) (n : Nat) : Srt (rowOf x y n) := by
  unfold rowOf Srt
  refine List.pairwise_map.2 (List.pairwise_iff_getElem.2 fun i j hi hj hij => ?_)
  rw [List.getElem_range, List.getElem_range, less_iff]
  dsimp only
  omega
theorem penS_step {p : Pen} {z : It} (h : PenS p) (hi : PenInv p) (hz : valid z) (he : penErr (penDo p z.tag z.n) = 0) : PenS (penDo p z.tag z.n) := by
  obtain ⟨e1, e2, e3⟩ := penErr_zero he
  obtain ⟨ht, hn, hm⟩ := hz
  obtain ⟨a, b, c, d, m, l⟩ := hi
  obtain ⟨s, lo, ib⟩ := h
  revert e1 e2 e3
  unfold penDo maxCoord
  split
  · intro e1 e2 e3
    refine ⟨s, fun q hq => ?_, ib⟩
    have := lo q hq
    rw [less_iff] at this ⊢
    dsimp only at *
    omega
  · split
    · intro e1 e2 e3
      refine ⟨s, fun q hq => ?_, ib⟩
      have := lo q hq
      rw [less_iff] at this ⊢
      dsimp only at *
      omega
    · intro e1 e2 e3
      dsimp only at e1 e2 e3
      refine ⟨?_, fun q hq => ?_, fun q hq => ?_⟩
      · refine List.pairwise_append.2 ⟨s, row_srt _ _ _, fun q hq r hr => ?_⟩
        have := lo q hq
        have h2 := row_mem hr
        rw [less_iff] at this ⊢
        dsimp only at this
        omega
      · dsimp only at hq
        rcases List.mem_append.1 hq with hq | hq
        · have := lo q hq
          rw [less_iff] at this ⊢
          dsimp only at *
          omega
        · have h2 := row_mem hq
          rw [less_iff]
          dsimp only
          omega
      · dsimp only at hq
        rcases List.mem_append.1 hq with hq | hq
        · exact ib q hq
        · have h2 := row_mem hq
          omega
theorem penRun_right : ∀ (its : List It) (p : Pen) (o : List (Int × Int)) (t : Int), (∀ z ∈ its, valid z) → PenInv p → PenS p → penRun its p = (o, 0, t) →
    Srt o ∧ o.length ≤ 2000 ∧ ∀ c ∈ o, 0 ≤ c.1 ∧ c.1 + 1 ≤ 1099511627776 ∧ 0 ≤ c.2 ∧ c.2 ≤ 1099511627776
  | [], p, o, t, _, hi, hs, h => by
    rw [penRun] at h
    obtain ⟨rfl, -⟩ := Prod.mk.inj h
    exact ⟨hs.srt, hi.len, hs.inb⟩
  | i :: r, p, o, t, hv, hi, hs, h => by
    rw [penRun] at h
    split at h
    · rename_i h0
      have hz := hv i (List.mem_cons_self ..)
      exact penRun_right r _ o t (fun z hz => hv z (List.mem_cons_of_mem _ hz)) (pen_step hi hz h0) (penS_step hs hi hz h0) h
    · rename_i h0
      simp only [Prod.mk.injEq] at h
      exact absurd h.2.1 h0
/-- what is parsed, whatever the text -/
theorem parse_facts (x : List UInt8) :
    ((parseP x).2.1 = 0 → (parseP x).2.2 = 0 ∧ Srt (parseP x).1 ∧ (parseP x).1.length ≤ 2000 ∧ ∀ c ∈ (parseP x).1, 0 ≤ c.1 ∧ c.1 + 1 ≤ 1099511627776 ∧ 0 ≤ c.2 ∧ c.2 ≤ 1099511627776) ∧
    ((parseP x).2.1 ≠ 0 → (parseP x).1 = [] ∧ 0 ≤ (parseP x).2.2 ∧ (parseP x).2.2 ≤ x.length) := by
  rw [parseP_eq]
  split
  · exact ⟨fun h => (by cases h), fun _ => ⟨rfl, by simp, by simp⟩⟩
  · split
    · rename_i hok
      have hle : hAt x + lineLen (x.drop (hAt x)) + 1 ≤ x.length := by
        have h1 := hok.1
        have h2 := hAt_le x
        rw [List.length_drop] at h1
        omega
      generalize hAt x + lineLen (x.drop (hAt x)) + 1 = a at *
      have hf := (lex_facts (x.drop a)).1
      have hdl : (x.drop a).length = x.length - a := by simp
      unfold bodyP
      split
      · rename_i h0
        obtain ⟨⟨o, e, t⟩, hr⟩ : ∃ r, penRun (lex (x.drop a)).1 pen0 = r := ⟨_, rfl⟩
        rw [hr]
        dsimp only
        have hv : ∀ z ∈ (lex (x.drop a)).1, valid z := fun z hz => (hf.each h0 z hz).1
        by_cases he : e = 0
        · subst he
          rw [if_pos rfl]
          obtain ⟨k1, k2, k3⟩ := penRun_right _ _ _ _ hv pen0_inv ⟨List.Pairwise.nil, by simp [pen0], by simp [pen0]⟩ hr
          exact ⟨fun _ => ⟨rfl, k1, k2, k3⟩, fun h => absurd rfl h⟩
        · rw [if_neg he]
          refine ⟨fun h => absurd h he, fun _ => ⟨rfl, ?_⟩⟩
          have key : ∀ (its : List It) (p : Pen) (o : List (Int × Int)) (e t : Int), penRun its p = (o, e, t) → e ≠ 0 → ∃ z ∈ its, t = z.at_ := by
            intro its
            induction its with
            | nil => intro p o e t h he; rw [penRun] at h; simp at h; exact absurd h.2.1.symm he
            | cons i r ih =>
              intro p o e t h he
              rw [penRun] at h
              split at h
              · obtain ⟨z, hz, e2⟩ := ih _ _ _ _ h he
                exact ⟨z, List.mem_cons_of_mem _ hz, e2⟩
              · simp only [Prod.mk.injEq] at h
                exact ⟨i, List.mem_cons_self .., h.2.2.symm⟩
          obtain ⟨z, hz, rfl⟩ := key _ _ _ _ _ hr he
          have h1 := (hf.each h0 z hz).2
          have h2 := hf.hi
          dsimp only
          omega
      · rename_i h0
        refine ⟨fun h => absurd h h0, fun _ => ⟨rfl, ?_⟩⟩
        have h1 := hf.lo
        have h2 := hf.hi
        dsimp only
        omega
    · exact ⟨fun h => (by cases h), fun _ => ⟨rfl, by simp, by have := hAt_le x; simp; omega⟩⟩
theorem parse_right {x : List UInt8} (h : (parseP x).2.1 = 0) : rightB (parseP x).1 = true := by
  obtain ⟨_, h1, h2, h3⟩ := (parse_facts x).1 h
  exact right_of (fun c hc => by have := h3 c hc; exact inB_of (by omega) (by omega) (by omega) (by omega)) h1 h2

/-! ### boxes -/
theorem box_form {l : List (Int × Int)} (hr : rightB l = true) (h0 : l ≠ []) :
    boxX l = lefts l l.length ∧ boxY l = (l.getD 0 (0, 0)).2 ∧ boxW l = rights l l.length - lefts l l.length + 1 ∧ boxH l = (l.getD (l.length - 1) (0, 0)).2 - (l.getD 0 (0, 0)).2 + 1 := by
  have hne : ¬ (l = [] ∨ rightB l = false) := by
    rintro (h | h)
    · exact h0 h
    · rw [hr] at h; cases h
  unfold boxX boxY boxW boxH boxOf
  rw [if_neg hne]
  exact ⟨rfl, rfl, rfl, rfl⟩
theorem mins_ge (d B : Int) (l : List Int) (hd : B ≤ d) (hl : ∀ x ∈ l, B ≤ x) : B ≤ mins d l := by
  unfold mins
  induction l generalizing d with
  | nil => exact hd
  | cons a r ih => exact ih _ (by have := hl a (List.mem_cons_self ..); omega) (fun x hx => hl x (List.mem_cons_of_mem _ hx))
theorem maxs_ge (d B : Int) (l : List Int) (hd : d ≤ B) (hl : ∀ x ∈ l, x ≤ B) : maxs d l ≤ B := by
  unfold maxs
  induction l generalizing d with
  | nil => exact hd
  | cons a r ih => exact ih _ (by have := hl a (List.mem_cons_self ..); omega) (fun x hx => hl x (List.mem_cons_of_mem _ hx))
theorem box_bounds {l : List (Int × Int)} (hr : rightB l = true) (A B C D : Int) (h0 : ∀ x ∈ l, A ≤ x.1 ∧ x.1 ≤ B ∧ C ≤ x.2 ∧ x.2 ≤ D) (hne : l ≠ []) :
    A ≤ boxX l ∧ C ≤ boxY l ∧ boxW l ≤ B - A + 1 ∧ boxH l ≤ D - C + 1 := by
  have hlp : 0 < l.length := List.length_pos_iff.2 hne
  obtain ⟨e1, e2, e3, e4⟩ := box_form hr hne
  have g0 := h0 l[0] (List.getElem_mem hlp)
  have g1 := h0 l[l.length - 1] (List.getElem_mem (by omega))
  have gl : A ≤ lefts l l.length := by
    unfold lefts
    refine mins_ge _ _ _ (by rw [getD_at _ _ 0 hlp]; exact g0.1) fun x hx => ?_
    obtain ⟨c, hc, rfl⟩ := List.mem_map.1 (List.mem_of_mem_take hx)
    exact (h0 c hc).1
  have gr : rights l l.length ≤ B := by
    unfold rights
    refine maxs_ge _ _ _ (by rw [getD_at _ _ 0 hlp]; exact g0.2.1) fun x hx => ?_
    obtain ⟨c, hc, rfl⟩ := List.mem_map.1 (List.mem_of_mem_take hx)
    exact (h0 c hc).2.1
  rw [e1, e2, e3, e4, getD_at _ _ 0 hlp, getD_at _ _ (l.length - 1) (by omega)]
  omega

/-! ### shifts -/
theorem shift_less (dx dy : Int) (a b : Int × Int) : lessB (a.1 + dx, a.2 + dy) (b.1 + dx, b.2 + dy) = lessB a b := by
  unfold lessB
  dsimp only
  congr 1
  apply propext
  omega
theorem shift_srt {l : List (Int × Int)} (h : Srt l) (dx dy : Int) : Srt (shiftM dx dy l) :=
  List.pairwise_map.2 (h.imp fun {a b} hab => by rw [shift_less]; exact hab)
theorem shift_right {l : List (Int × Int)} (h : rightB l = true) (dx dy : Int) (hb : ∀ x ∈ l, inB (x.1 + dx, x.2 + dy) = true) : rightB (shiftM dx dy l) = true := by
  refine right_of (fun x hx => ?_) (shift_srt (right_srt h) dx dy) (by rw [shiftM_len]; exact right_len h)
  obtain ⟨c, hc, rfl⟩ := List.mem_map.1 hx
  exact hb c hc
theorem mins_shift (d e : Int) (l : List Int) : mins (d + e) (l.map (· + e)) = mins d l + e := by
  unfold mins
  induction l generalizing d with
  | nil => rfl
  | cons a r ih =>
    rw [List.map_cons, List.foldl_cons, List.foldl_cons, show min (d + e) (a + e) = min d a + e from by omega]
    exact ih _
theorem maxs_shift (d e : Int) (l : List Int) : maxs (d + e) (l.map (· + e)) = maxs d l + e := by
  unfold maxs
  induction l generalizing d with
  | nil => rfl
  | cons a r ih =>
    rw [List.map_cons, List.foldl_cons, List.foldl_cons, show max (d + e) (a + e) = max d a + e from by omega]
    exact ih _
theorem shift_box {l : List (Int × Int)} (h : rightB l = true) (dx dy : Int) (hr : rightB (shiftM dx dy l) = true) (hne : l ≠ []) :
    boxX (shiftM dx dy l) = boxX l + dx ∧ boxY (shiftM dx dy l) = boxY l + dy ∧ boxW (shiftM dx dy l) = boxW l ∧ boxH (shiftM dx dy l) = boxH l := by
  have hlp : 0 < l.length := List.length_pos_iff.2 hne
  have hne2 : shiftM dx dy l ≠ [] := by intro e; have := congrArg List.length e; rw [shiftM_len] at this; simp at this; exact hne (by simpa using this)
  obtain ⟨e1, e2, e3, e4⟩ := box_form h hne
  obtain ⟨k1, k2, k3, k4⟩ := box_form hr hne2
  have g : ∀ i, i < l.length → (shiftM dx dy l).getD i (0, 0) = ((l.getD i (0, 0)).1 + dx, (l.getD i (0, 0)).2 + dy) := by
    intro i hi
    rw [getD_at _ _ i (by rw [shiftM_len]; exact hi), getD_at _ _ i hi]
    unfold shiftM
    rw [List.getElem_map]
  have hl : lefts (shiftM dx dy l) (shiftM dx dy l).length = lefts l l.length + dx := by
    unfold lefts
    rw [g 0 hlp, shiftM_len]
    dsimp only
    rw [← mins_shift]
    congr 1
    unfold shiftM
    rw [List.map_map, List.take_of_length_le (by simp), List.take_of_length_le (by simp), List.map_map]
    rfl
  have hrr : rights (shiftM dx dy l) (shiftM dx dy l).length = rights l l.length + dx := by
    unfold rights
    rw [g 0 hlp, shiftM_len]
    dsimp only
    rw [← maxs_shift]
    congr 1
    unfold shiftM
    rw [List.map_map, List.take_of_length_le (by simp), List.take_of_length_le (by simp), List.map_map]
    rfl
  rw [k1, k2, k3, k4, e1, e2, e3, e4, hl, hrr, shiftM_len, g 0 hlp, g (l.length - 1) (by omega)]
  dsimp only
  omega
theorem pr_shift (bx dx dy : Int) (s : Wr) (c : Int × Int) : prStep (bx + dx) ⟨s.items, s.x + dx, s.y + dy⟩ (c.1 + dx, c.2 + dy) =
    ⟨(prStep bx s c).items, (prStep bx s c).x + dx, (prStep bx s c).y + dy⟩ := by
  unfold prStep
  dsimp only
  by_cases h : s.y < c.2
  · rw [if_pos h, if_pos (by omega)]
    rw [show c.2 + dy - (s.y + dy) = c.2 - s.y from by omega, show c.1 + dx - (bx + dx) = c.1 - bx from by omega]
    congr 1
    dsimp only
    omega
  · rw [if_neg h, if_neg (by omega)]
    rw [show c.1 + dx - (s.x + dx) = c.1 - s.x from by omega]
    congr 1
    dsimp only
    omega
theorem prFold_shift (bx by_ dx dy : Int) (l : List (Int × Int)) : (prFold (bx + dx) (by_ + dy) (shiftM dx dy l)).items = (prFold bx by_ l).items := by
  have key : ∀ (l : List (Int × Int)) (s : Wr), (shiftM dx dy l).foldl (prStep (bx + dx)) ⟨s.items, s.x + dx, s.y + dy⟩ = ⟨(l.foldl (prStep bx) s).items, (l.foldl (prStep bx) s).x + dx, (l.foldl (prStep bx) s).y + dy⟩ := by
    intro l
    induction l with
    | nil => intro s; rfl
    | cons c r ih =>
      intro s
      show (shiftM dx dy r).foldl (prStep (bx + dx)) (prStep (bx + dx) _ (c.1 + dx, c.2 + dy)) = _
      rw [pr_shift, ih]
      rfl
  have := key l ⟨[], bx, by_⟩
  unfold prFold
  rw [this]
/-- WHEREVER A SET STANDS, ITS TEXT IS THE SAME. -/
theorem print_shift {l : List (Int × Int)} (h : rightB l = true) (dx dy : Int) (hr : rightB (shiftM dx dy l) = true) : printOf (shiftM dx dy l) = printOf l := by
  by_cases hne : l = []
  · subst hne; rfl
  · obtain ⟨e1, e2, e3, e4⟩ := shift_box h dx dy hr hne
    unfold printOf itemsOf
    rw [if_pos h, if_pos hr, e1, e2, e3, e4, prFold_shift]
theorem shift_all {l : List (Int × Int)} (hr : rightB l = true) (dx dy : Int) (hx : -2199023255552 ≤ dx ∧ dx ≤ 2199023255552 ∧ -2199023255552 ≤ dy ∧ dy ≤ 2199023255552) (hb : ∀ x ∈ l, inB (x.1 + dx, x.2 + dy) = true) :
    shiftP l dx dy = (shiftM dx dy l, 0) := by
  unfold shiftP
  rw [if_pos hr, if_pos]
  exact List.all_eq_true.2 fun c hc => by unfold shiftOk; rw [hb c hc, decide_eq_true hx]; rfl
/-- to its box's corner -/
theorem shift_home {l : List (Int × Int)} (hr : rightB l = true) (hW : boxW l ≤ maxCoord) (hH : boxH l ≤ maxCoord + 1) :
    shiftP l (-boxX l) (-boxY l) = (l.map (fun c => (c.1 - boxX l, c.2 - boxY l)), 0) := by
  have hb := box_in hr
  rw [shift_all hr _ _ (by omega) ?_]
  · rfl
  · intro x hx
    obtain ⟨i, hi, rfl⟩ := List.getElem_of_mem hx
    obtain ⟨b1, b2, b3, b4⟩ := box_facts hr i hi
    have hy := right_y hr i hi
    unfold maxCoord at hW hH
    exact inB_of (by dsimp only; omega) (by dsimp only; omega) (by dsimp only; omega) (by dsimp only; omega)
end Go.Proofs.YtnpndkmcgpaibaaDoor
