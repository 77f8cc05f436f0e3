/- RleItems: plain laws of the loop that tells items one by one; then the walk. -/
import Derived.Test.YtnpndkmcgpaibaaDoorPH
import Derived.Test.YtnpndkmcgpaibaaDoorDS
set_option linter.unusedVariables false
namespace Go.Proofs.YtnpndkmcgpaibaaDoor
open Go.RowKit Go.Sort
attribute [local go_sem high] eqA89

theorem set_right (raw : List (Int × Int)) : rightB (setP raw) = true :=
  right_of (fun x hx => by have := set_mem raw x hx; exact inB_of (by omega) (by omega) (by omega) (by omega)) (set_srt raw) (by have := setP_len raw; omega)
/-- the loop's state behind some bytes: the number, and what is told -/
def expS : List UInt8 → Int × List UInt8 → Int × List UInt8
  | [], s => s
  | c :: r, s => if isDigit c = true then expS r (10 * s.1 + ((c.toNat : Int) - 48), s.2) else expS r (0, s.2 ++ List.replicate (min (max s.1 1) 100).toNat c)
theorem expS_append : ∀ (a b : List UInt8) (s : Int × List UInt8), expS (a ++ b) s = expS b (expS a s)
  | [], b, s => rfl
  | c :: a, b, s => by
    rw [List.cons_append, expS, expS]
    split
    · exact expS_append a b _
    · exact expS_append a b _
theorem expS_eq : ∀ (l : List UInt8) (n : Int) (o : List UInt8), (expS l (n, o)).2 = o ++ expB l n
  | [], n, o => by simp [expS, expB]
  | c :: r, n, o => by
    rw [expS, expB]
    split
    · exact expS_eq r _ _
    · rw [expS_eq r]; simp
theorem expS_one (c : UInt8) (s : Int × List UInt8) : expS [c] s = if isDigit c = true then (10 * s.1 + ((c.toNat : Int) - 48), s.2) else (0, s.2 ++ List.replicate (min (max s.1 1) 100).toNat c) := by
  rw [expS]; split <;> rfl
theorem expS_len : ∀ (l : List UInt8) (s : Int × List UInt8), (expS l s).2.length ≤ s.2.length + 100 * l.length
  | [], s => by simp [expS]
  | c :: r, s => by
    rw [expS]
    split
    · have := expS_len r (10 * s.1 + ((c.toNat : Int) - 48), s.2)
      simp only [List.length_cons] at *
      omega
    · have := expS_len r (0, s.2 ++ List.replicate (min (max s.1 1) 100).toNat c)
      rw [List.length_append, List.length_replicate] at this
      simp only [List.length_cons]
      omega
theorem dec_two {n : Nat} (h : n < 100) : dec n = if n < 10 then [UInt8.ofNat (48 + n)] else [UInt8.ofNat (48 + n / 10), UInt8.ofNat (48 + n % 10)] := by
  rw [dec_eq]
  split
  · rfl
  · rw [dec_small (by omega)]; rfl
theorem expS_dec {n : Nat} (h : n < 100) (o : List UInt8) : expS (dec n) (0, o) = ((n : Int), o) := by
  rw [dec_two h]
  split
  · rename_i hn
    rw [expS_one, if_pos (dg_digit hn), dg_val hn]; simp
  · rename_i hn
    rw [expS, if_pos (dg_digit (by omega)), expS_one, if_pos (dg_digit (by omega)), dg_val (by omega), dg_val (by omega)]
    congr 1
    dsimp only
    omega
theorem expS_part {n : Nat} (h : n < 100) (o : List UInt8) (j : Nat) : 0 ≤ (expS ((dec n).take j) (0, o)).1 ∧ (expS ((dec n).take j) (0, o)).1 ≤ n := by
  by_cases hj : (dec n).length ≤ j
  · rw [List.take_of_length_le hj, expS_dec h]; exact ⟨by dsimp only; omega, by dsimp only; omega⟩
  · rw [dec_two h] at hj ⊢
    split at hj
    · have : j = 0 := by simp at hj; omega
      subst this; exact ⟨by simp [expS], by simp [expS]⟩
    · rename_i hn
      rw [if_neg hn]
      have : j = 0 ∨ j = 1 := by simp at hj; omega
      rcases this with rfl | rfl
      · exact ⟨by simp [expS], by simp [expS]⟩
      · show 0 ≤ (expS [UInt8.ofNat (48 + n / 10)] (0, o)).1 ∧ _
        rw [show List.take 1 [UInt8.ofNat (48 + n / 10), UInt8.ofNat (48 + n % 10)] = [UInt8.ofNat (48 + n / 10)] from rfl, expS_one, if_pos (dg_digit (by omega)), dg_val (by omega)]
        dsimp only
        omega
theorem expS_item {x : It} (hv : valid x) (hn : x.n ≤ 75) (o : List UInt8) : (expS (itText x) (0, o)).1 = 0 ∧ ∀ j, 0 ≤ (expS ((itText x).take j) (0, o)).1 ∧ (expS ((itText x).take j) (0, o)).1 ≤ 75 := by
  have ht := (tag_not hv.1).1
  have h1 := hv.2.1
  rw [itText, if_pos (show isTag x.tag = true ∧ 1 ≤ x.n ∧ x.n ≤ maxCoord from hv)]
  have key : ∀ s : Int × List UInt8, (expS [x.tag] s).1 = 0 := fun s => by rw [expS_one, if_neg (by rw [ht]; simp)]
  by_cases h : 1 < x.n
  · rw [if_pos h]
    refine ⟨by rw [expS_append]; exact key _, fun j => ?_⟩
    by_cases hj : j ≤ (dec x.n.toNat).length
    · rw [List.take_append_of_le_length hj]
      have := expS_part (n := x.n.toNat) (by omega) o j
      omega
    · rw [List.take_of_length_le (by simp; omega), expS_append, key]; omega
  · rw [if_neg h, List.nil_append]
    refine ⟨key _, fun j => ?_⟩
    cases j with
    | zero => exact ⟨by simp [expS], by simp [expS]⟩
    | succ j => rw [List.take_of_length_le (by simp), key]; omega
theorem expS_text : ∀ (l : List It) (o : List UInt8), (∀ x ∈ l, valid x) → (∀ x ∈ l, x.n ≤ 75) → (expS (text l) (0, o)).1 = 0 ∧ ∀ j, 0 ≤ (expS ((text l).take j) (0, o)).1 ∧ (expS ((text l).take j) (0, o)).1 ≤ 75
  | [], o, _, _ => ⟨rfl, fun j => by simp [text, expS]⟩
  | x :: r, o, hv, hs => by
    have htx : text (x :: r) = itText x ++ text r := by simp [text]
    obtain ⟨a, b⟩ := expS_item (hv x (List.mem_cons_self ..)) (hs x (List.mem_cons_self ..)) o
    have e : expS (itText x) (0, o) = (0, (expS (itText x) (0, o)).2) := Prod.ext a rfl
    obtain ⟨c, d⟩ := expS_text r (expS (itText x) (0, o)).2 (fun y hy => hv y (List.mem_cons_of_mem _ hy)) (fun y hy => hs y (List.mem_cons_of_mem _ hy))
    rw [htx]
    refine ⟨by rw [expS_append, e]; exact c, fun j => ?_⟩
    by_cases hj : j ≤ (itText x).length
    · rw [List.take_append_of_le_length hj]; exact b j
    · rw [List.take_append, List.take_of_length_le (by omega), expS_append, e]; exact d _
/-- the loop's number stays small -/
theorem expS_small (l : List It) (hv : ∀ x ∈ l, valid x) (hs : ∀ x ∈ l, x.n ≤ 75) (j : Nat) : 0 ≤ (expS ((10 :: (text l ++ [33, 10])).take j) (0, [])).1 ∧ (expS ((10 :: (text l ++ [33, 10])).take j) (0, [])).1 ≤ 75 := by
  cases j with
  | zero => exact ⟨by simp [expS], by simp [expS]⟩
  | succ j =>
    rw [List.take_succ_cons, expS, if_neg (by decide)]
    dsimp only
    generalize ([] ++ List.replicate (min (max (0 : Int) 1) 100).toNat (10 : UInt8)) = o
    obtain ⟨a, b⟩ := expS_text l o hv hs
    by_cases hj : j ≤ (text l).length
    · rw [List.take_append_of_le_length hj]; exact b j
    · rw [List.take_append, List.take_of_length_le (by omega), expS_append]
      have e : expS (text l) (0, o) = (0, (expS (text l) (0, o)).2) := Prod.ext a rfl
      rw [e]
      have : j - (text l).length = 1 ∨ 2 ≤ j - (text l).length := by omega
      rcases this with h | h
      · rw [h]; show 0 ≤ (expS [33] _).1 ∧ _; rw [show List.take 1 [(33 : UInt8), 10] = [33] from rfl, expS_one, if_neg (by decide)]; exact ⟨by dsimp only; omega, by dsimp only; omega⟩
      · rw [List.take_of_length_le (by simp; omega), expS, if_neg (by decide), expS_one, if_neg (by decide)]; exact ⟨by dsimp only; omega, by dsimp only; omega⟩
theorem exp_whole (l : List It) (hv : ∀ x ∈ l, valid x) (hs : ∀ x ∈ l, x.n ≤ 75) : (expS (10 :: (text l ++ [33, 10])) (0, [])).2 = 10 :: (text (onesOf l) ++ [33, 10]) := by
  rw [expS_eq, List.nil_append, expB, if_neg (by decide), exp_text l [33, 10] hv hs, ones_text2 hv]
  rfl

theorem ones_len {l : List It} (hv : ∀ x ∈ l, valid x) (hs : ∀ x ∈ l, x.n ≤ 75) : (text (onesOf l)).length ≤ 75 * l.length := by
  rw [ones_text2 hv]
  induction l with
  | nil => simp
  | cons x r ih =>
    rw [List.flatMap_cons, List.length_append, List.length_replicate]
    have h1 := hs x (List.mem_cons_self ..)
    have h2 := ih (fun y hy => hv y (List.mem_cons_of_mem _ hy)) (fun y hy => hs y (List.mem_cons_of_mem _ hy))
    simp only [List.length_cons]
    omega
theorem items_facts {l : List (Int × Int)} (hr : rightB l = true) (hm : ∀ x ∈ l, -8 ≤ x.1 ∧ x.1 ≤ 7 ∧ -8 ≤ x.2 ∧ x.2 ≤ 7) (hl : l.length ≤ 60) : ∃ (h : List UInt8) (its : List It) (o : List (Int × Int)),
    printOf l = (h ++ 10 :: (text its ++ [33, 10]), 0) ∧ h.all isLine = true ∧ (∀ x ∈ its, valid x) ∧ (∀ x ∈ its, x.n ≤ 75) ∧ o.length ≤ 60 ∧ (h ++ 10 :: (text its ++ [33, 10])).length ≤ 3000 ∧
    parseP (h ++ 10 :: (text its ++ [33, 10])) = (o, 0, 0) ∧ parseP (h ++ 10 :: (text (onesOf its) ++ [33, 10])) = (o, 0, 0) := by
  have hB := small_box hr (fun x hx => by have := hm x hx; omega)
  obtain ⟨q, hc, ho⟩ := pr_came hr hB.1 hB.2
  obtain ⟨s0, s1, s2, s3⟩ := box_small hr
  have hp : printOf l = (headText (boxW l) (boxH l) ++ 10 :: (text (itemsOf l) ++ [33, 10]), 0) := by unfold printOf; rw [if_pos hr]
  have hlen := print_len l
  rw [hp] at hlen
  dsimp only at hlen
  have hsm := items_small hr hm hl
  have hil := prItems_len hr
  have hol := ones_len hc.each hsm
  have hok := headOk_text (boxW l) (boxH l) s0 (by unfold maxCount; omega) s2 (by unfold maxCount; omega)
  have hln := head_line (boxW l) (boxH l)
  have h35 : (headText (boxW l) (boxH l)).head? ≠ some 35 := by rw [hln.2]; decide
  refine ⟨_, _, q.out, hp, hln.1, hc.each, hsm, by rw [ho, List.length_map]; exact hl, by omega, ?_, ?_⟩
  · rw [parse_head _ _ h35 hln.1 (by omega), if_pos hok]
    exact body_text _ _ _ hc.each hc.all [10] (by simp only [List.length_append, List.length_cons, List.length_nil] at hlen ⊢; omega)
  · rw [parse_head _ _ h35 hln.1 (by simp only [List.length_append, List.length_cons, List.length_nil] at hlen ⊢; omega), if_pos hok]
    exact body_text _ _ _ (ones_valid2 hc.each) (ones_all _ _ _ hc.each hc.all) [10] (by simp only [List.length_append, List.length_cons, List.length_nil] at hlen ⊢; omega)

set_option maxHeartbeats 16000000 in
set_option maxRecDepth 100000 in
theorem ritems_walk (rv : Value) (raw : List (Int × Int)) (w : World) (hg : Good5 w) (hr : RawRow w rv raw) (hrl : raw.length ≤ 140737488351232) :
    Calls Tryd.prog 13 #[rv] w fun e w' => e = .returned (.bool true) ∧ Below w.heap.size w w' := by
  have hs4 := hg.size
  go_enter Tryd.func13, Tryd.ntmps13
  go_wp2_with fail
  refine (awake5_walk _ hg).mono ?_
  rintro e w1 ⟨rfl, hb1⟩
  go_wp2_with fail
  refine (set_walk _ raw _ (by omega) (hr.below hb1)).mono ?_
  rintro e w2 ⟨lv, rfl, ho, hb2⟩
  replace hb2 := hb1.trans (hb2.mono hb1.size)
  have hln := setP_len raw
  obtain ⟨h, its, oo, hP, hl, hv, hsm, hol, htl, hq1, hq2⟩ := items_facts (set_right raw) (set_mem raw) hln
  have hlr := crow_of_owns ho
  clear hr ho hb1
  generalize setP raw = l at *
  have HSM := Lib.hid (expS_small its hv hsm)
  have HWH := Lib.hid (exp_whole its hv hsm)
  have HLN := mkHid hl
  clear hl hv hsm
  go_wp2_with fail
  refine (print_call _ l w2 (by omega) (hg.below hb2 hs4) hlr hP).mono ?_
  rintro e w3 ⟨rfl, hb3⟩
  replace hb3 := hb2.trans (hb3.mono hb2.size)
  clear hlr hb2 hP
  obtain ⟨B, hB⟩ : ∃ B, 10 :: (text its ++ [33, 10]) = B := ⟨_, rfl⟩
  have HB0 : Hid (B[0]? = some 10) := mkHid (by rw [← hB]; rfl)
  have hB1 : 3 ≤ B.length := by rw [← hB]; simp
  rw [hB] at htl hq1 HSM HWH ⊢
  clear hB
  obtain ⟨t, ht⟩ : ∃ t, h ++ B = t := ⟨_, rfl⟩
  rw [ht] at htl hq1 ⊢
  have htz : t.length = h.length + B.length := by rw [← ht]; simp
  have hts := S_size t
  have HLO : Hid (∀ k, k < h.length → ∀ hk : k < t.length, isLine t[k] = true) := mkHid fun k hk hk2 => by
    subst ht
    rw [List.getElem_append_left hk]
    exact List.all_eq_true.1 HLN.out _ (List.getElem_mem _)
  have HTEN : Hid (∀ hk : h.length < t.length, t[h.length] = 10) := mkHid fun hk => by
    subst ht
    rw [List.getElem_append_right (Nat.le_refl _)]
    have := HB0.out
    rw [List.getElem?_eq_getElem (by omega)] at this
    simpa using this
  have HPRE : Hid (t.take h.length = h) := mkHid (by rw [← ht]; simp)
  have HBY : Hid (∀ m, ∀ hm : m < B.length, ∀ hk : h.length + m < t.length, t[h.length + m] = B[m]) := mkHid fun m hm hk => by
    subst ht
    rw [List.getElem_append_right (by omega)]
    simp
  have HTK : Hid (t.drop h.length = B) := mkHid (by rw [← ht]; simp)
  clear ht
  go_wp2_with fail
  go_loopw [6] (fun i wr => ∃ k : Nat, k ≤ h.length ∧ i = .int .i64 k ∧ wr = w3) (fun i _ => h.length + 1 - (intOf i).toNat)
  case atStart => exact ⟨0, Nat.zero_le _, rfl, rfl⟩
  case round =>
    obtain ⟨k, hk, rfl, rfl⟩ := hrel
    have hget := S_get t k (by omega)
    have hkt' : (k : Int) < t.length := by omega
    by_cases hlt : k < h.length
    · have hq := HLO.out k hlt (by omega)
      generalize t[k]'(by omega) = cc at hget hq
      have h10 : ((cc.toNat : Int) != 10) = true := by
        rw [bne_iff_ne]; intro hh
        have : cc = 10 := UInt8.toNat_inj.1 (by show cc.toNat = 10; omega)
        rw [this] at hq; cases hq
      clear hq
      go_wp2_with fail
      exact ⟨⟨k + 1, by omega, by simp, trivial⟩, by simp [intOf]; omega⟩
    · have hkh : k = h.length := by omega
      subst hkh
      rw [HTEN.out (by omega)] at hget
      have hex : (S t).extract 0 h.length = S h := by rw [S_extract, List.drop_zero, HPRE.out]
      go_wp2_with fail
      clear hget hkt' hlt hex HLO HTEN hk
      generalize wr = w4 at *
      go_loopw [7, 8, 9] (fun sv nv iv wr => ∃ m : Nat, m ≤ B.length ∧ iv = .int .i64 ((h.length : Int) + m) ∧ nv = .int .i64 (expS (B.take m) (0, [])).1 ∧ sv = .string (S (h ++ (expS (B.take m) (0, [])).2)) ∧ wr = w4) (fun _ _ i _ => h.length + B.length + 1 - (intOf i).toNat)
      case atStart => exact ⟨0, Nat.zero_le _, by simp, rfl, by simp [expS], rfl⟩
      case round =>
        obtain ⟨m, hm, rfl, rfl, rfl, rfl⟩ := hrel
        obtain ⟨n0, n1⟩ := HSM.out m
        have hsl := expS_len (B.take m) (0, [])
        rw [List.length_take] at hsl
        by_cases hlt : m < B.length
        · have hlt' : (h.length : Int) + m < t.length := by omega
          have hgt := S_get t (h.length + m) (by omega)
          rw [HBY.out m hlt (by omega)] at hgt
          have HST : Hid (expS (B.take (m + 1)) (0, []) = expS [B[m]] (expS (B.take m) (0, []))) := mkHid (by rw [List.take_succ_eq_append_getElem hlt, expS_append])
          have hex : (S t).extract (h.length + m) (h.length + m + 1) = S [B[m]] := by
            rw [S_extract]
            congr 1
            have e1 : t.take (h.length + m + 1) = t.take (h.length + m) ++ [t[h.length + m]'(by omega)] := List.take_succ_eq_append_getElem (by omega)
            rw [e1, HBY.out m hlt (by omega), List.drop_append_of_le_length (by rw [List.length_take]; omega), List.drop_of_length_le (by rw [List.length_take]; omega)]
            rfl
          generalize B[m] = c at *
          generalize expS (B.take m) (0, []) = st at *
          obtain ⟨n, o⟩ := st
          dsimp only at n0 n1 hsl
          rw [expS_one] at HST
          have hc1 : (S [c]).size = 1 := by rw [S_size]; rfl
          have hc0 : (S [c])[0]'(by rw [hc1]; omega) = c := S_get [c] 0 (by rw [hc1]; omega)
          cases hd : isDigit c with
          | true =>
            obtain ⟨h48, h57⟩ := dig_bounds hd
            rw [hd] at HST
            replace HST : Hid (expS (B.take (m + 1)) (0, []) = (10 * n + ((c.toNat : Int) - 48), o)) := mkHid HST.out
            go_wp2_with fail
            exact ⟨⟨m + 1, by omega, by simp; omega, by rw [HST.out]; congr 1; dsimp only; omega, by rw [HST.out], trivial⟩, by simp [intOf]; omega⟩
          | false =>
            rw [hd] at HST
            obtain ⟨M, hM⟩ : ∃ M : Nat, (min (max n 1) 100).toNat = M := ⟨_, rfl⟩
            replace HST : Hid (expS (B.take (m + 1)) (0, []) = (0, o ++ List.replicate M c)) := mkHid (by rw [← hM]; exact HST.out)
            have hM1 : (M : Int) = min (max n 1) 100 := by omega
            simp only [List.length_nil] at hsl
            generalize wr = w5 at *
            by_cases h48 : (c.toNat : Int) < 48
            · have d1 : decide ((48 : Int) ≤ c.toNat) = false := by simp; omega
              go_wp2_with fail
              go_loopw [7, 11] (fun sv jv wr => ∃ j : Nat, j ≤ M ∧ jv = .int .i64 j ∧ sv = .string (S (h ++ (o ++ List.replicate j c))) ∧ wr = w5) (fun _ j _ => M - (intOf j).toNat)
              case atStart => exact ⟨0, Nat.zero_le _, rfl, by simp, rfl⟩
              case round =>
                obtain ⟨j, hj, rfl, rfl, rfl⟩ := hrel
                have hz1 := S_size (h ++ (o ++ List.replicate j c))
                have hz2 : (h ++ (o ++ List.replicate j c)).length = h.length + (o.length + j) := by simp
                by_cases hjm : j < M
                · have g1 : (j : Int) < max n 1 := by omega
                  have g2 : (j : Int) < 100 := by omega
                  have hap : S (h ++ (o ++ List.replicate j c)) ++ S [c] = S (h ++ (o ++ List.replicate (j + 1) c)) := by rw [S_append, List.append_assoc, List.append_assoc, ← List.replicate_succ']
                  go_wp2_with fail
                  exact ⟨⟨j + 1, by omega, by simp, rfl, trivial⟩, by simp [intOf]; omega⟩
                · have hje : j = M := by omega
                  have HSE : Hid (S (h ++ (o ++ List.replicate j c)) = S (h ++ (expS (B.take (m + 1)) (0, [])).2)) := mkHid (by rw [HST.out, hje])
                  have g1 : ¬ (j : Int) < max n 1 := by omega
                  go_wp2_with fail
                  exact ⟨⟨m + 1, by omega, by simp; omega, by rw [HST.out], by rw [HST.out], trivial⟩, by simp [intOf]; omega⟩
            · have h57 : (57 : Int) < c.toNat := by
                have : ¬ (48 ≤ c.toNat ∧ c.toNat ≤ 57) := by
                  intro h2
                  have : isDigit c = true := by
                    unfold isDigit
                    simp only [Bool.and_eq_true, decide_eq_true_eq]
                    exact ⟨UInt8.le_iff_toNat_le.2 h2.1, UInt8.le_iff_toNat_le.2 h2.2⟩
                  rw [hd] at this; cases this
                omega
              go_wp2_with fail
              go_loopw [7, 11] (fun sv jv wr => ∃ j : Nat, j ≤ M ∧ jv = .int .i64 j ∧ sv = .string (S (h ++ (o ++ List.replicate j c))) ∧ wr = w5) (fun _ j _ => M - (intOf j).toNat)
              case atStart => exact ⟨0, Nat.zero_le _, rfl, by simp, rfl⟩
              case round =>
                obtain ⟨j, hj, rfl, rfl, rfl⟩ := hrel
                have hz1 := S_size (h ++ (o ++ List.replicate j c))
                have hz2 : (h ++ (o ++ List.replicate j c)).length = h.length + (o.length + j) := by simp
                by_cases hjm : j < M
                · have g1 : (j : Int) < max n 1 := by omega
                  have g2 : (j : Int) < 100 := by omega
                  have hap : S (h ++ (o ++ List.replicate j c)) ++ S [c] = S (h ++ (o ++ List.replicate (j + 1) c)) := by rw [S_append, List.append_assoc, List.append_assoc, ← List.replicate_succ']
                  go_wp2_with fail
                  exact ⟨⟨j + 1, by omega, by simp, rfl, trivial⟩, by simp [intOf]; omega⟩
                · have hje : j = M := by omega
                  have HSE : Hid (S (h ++ (o ++ List.replicate j c)) = S (h ++ (expS (B.take (m + 1)) (0, [])).2)) := mkHid (by rw [HST.out, hje])
                  have g1 : ¬ (j : Int) < max n 1 := by omega
                  go_wp2_with fail
                  exact ⟨⟨m + 1, by omega, by simp; omega, by rw [HST.out], by rw [HST.out], trivial⟩, by simp [intOf]; omega⟩
        · have hmB : m = B.length := by omega
          subst hmB
          rw [List.take_length, HWH.out]
          rw [List.take_length, HWH.out, Nat.min_self] at hsl
          have hlt' : ¬ (h.length : Int) + B.length < t.length := by omega
          go_wp2_with fail
          refine (parse_call rfl hq1 (by omega) wr (hg.below hb3 hs4)).mono ?_
          rintro e w6 ⟨v6, rfl, ho6, hb6⟩
          have hr6 := crow_of_owns ho6
          replace hb6 := hb3.trans (hb6.mono hb3.size)
          go_wp2_with fail
          refine (parse_call rfl hq2 (by simp only [List.length_append, List.length_cons, List.length_nil] at *; omega) w6 (hg.below hb6 hs4)).mono ?_
          rintro e w7 ⟨v7, rfl, ho7, hb7⟩
          have hr7 := crow_of_owns ho7
          have hr67 := hr6.below hb7
          replace hb7 := hb6.trans (hb7.mono hb6.size)
          go_wp2_with fail
          refine (csame_walk _ _ _ _ _ (by omega) (by omega) hr67 hr7).mono ?_
          rintro e w8 ⟨rfl, nn, rfl⟩
          have hb8 := below_drewN hb7 nn
          go_wp2_with fail
          go_ret
          exact ⟨by simp, hb8⟩
end Go.Proofs.YtnpndkmcgpaibaaDoor
