/- number, head, body and begin of the program walked. -/
import Derived.Test.YtnpndkmcgpaibaaDoorCP
import Derived.Test.YtnpndkmcgpaibaaDoorShelf
set_option linter.unusedVariables false
namespace Go.Proofs.YtnpndkmcgpaibaaDoor
open Go.RowKit Go.Sort

/-- the variable that strings.Cut reads -/
def Hm (w : World) : Prop := ∃ m, w.cell? ⟨0, 0, none⟩ = some (.int .i64 m)
theorem Hm.below {w w' : World} {B : Nat} (h : Hm w) (hb : Below B w w') (hB : 1 ≤ B) : Hm w' := by
  obtain ⟨m, hm⟩ := h
  exact ⟨m, (hb.cell (p := ⟨0, 0, none⟩) (by show 0 < B; omega)).trans hm⟩
theorem S_data (l : List UInt8) : (S l).data.toList = l := by simp [S]
theorem scut_any (sb pb : ByteArray) (l p : List UInt8) (w : World) (hsb : sb = S l) (hpb : pb = S p) (hl : l.length ≤ 1000000) (hm : Hm w) :
    Calls Tryd.prog 72 #[.string sb, .string pb] w fun e w' => e = .returned (.tuple #[.string (S (Lib.cut l p).1), .string (S (Lib.cut l p).2.1), .bool (Lib.cut l p).2.2]) ∧ ∃ n, w' = w.drewN n := by
  subst hsb hpb
  obtain ⟨m, hm⟩ := hm
  have := Tryd.strings_Cut (S l) (S p) m w (by rw [S_size]; omega) hm
  rw [S_data, S_data] at this
  exact this
theorem hasPrefix_any (sb pb : ByteArray) (l p : List UInt8) (w : World) (hsb : sb = S l) (hpb : pb = S p) :
    Calls Tryd.prog 65 #[.string sb, .string pb] w fun e w' => e = .returned (.bool (Lib.hasPrefix l p)) ∧ w' = w := by
  subst hsb hpb
  have := Tryd.strings_HasPrefix (S l) (S p) w
  rw [S_data, S_data] at this
  exact this
theorem trimSuffix_any (sb pb : ByteArray) (l p : List UInt8) (w : World) (hsb : sb = S l) (hpb : pb = S p) (hl : l.length ≤ 1000000) :
    Calls Tryd.prog 84 #[.string sb, .string pb] w fun e w' => e = .returned (.string (S (Lib.trimSuffix l p))) ∧ w' = w := by
  subst hsb hpb
  have := Tryd.strings_TrimSuffix (S l) (S p) w (by rw [S_size]; omega)
  rw [S_data, S_data] at this
  exact this
theorem cutPrefix_any (sb pb : ByteArray) (l p : List UInt8) (w : World) (hsb : sb = S l) (hpb : pb = S p) :
    Calls Tryd.prog 83 #[.string sb, .string pb] w fun e w' => e = .returned (.tuple #[.string (S (Lib.trimPrefix l p)), .bool (Lib.hasPrefix l p)]) ∧ w' = w := by
  subst hsb hpb
  have := Tryd.strings_CutPrefix (S l) (S p) w
  rw [S_data, S_data] at this
  exact this
theorem number_any (l : List UInt8) (w : World) (hl : l.length ≤ 1000000) :
    Calls Tryd.prog 85 #[.string (S l)] w fun e w' => e = .returned (.bool (numOk l)) ∧ Below w.heap.size w w' := by
  go_enter Tryd.func85, Tryd.ntmps85
  go_wp2_with fail
  refine (parse_any l w (by omega)).mono ?_
  rintro e w' ⟨rfl, hb⟩
  have HN : Hid (numOk l = ((cparse l).2 == 0)) := mkHid rfl
  generalize (cparse l).1 = c1 at *
  generalize (cparse l).2 = c2 at *
  go_wp2_with fail
  go_ret
  exact ⟨retb HN.out.symm, hb⟩
theorem trim_len (l p : List UInt8) : (Lib.trimSuffix l p).length ≤ l.length := by unfold Lib.trimSuffix; split <;> simp
theorem trimP_len (l p : List UInt8) : (Lib.trimPrefix l p).length ≤ l.length := by unfold Lib.trimPrefix; split <;> simp
theorem lcut_len (l p : List UInt8) : (Lib.cut l p).1.length ≤ l.length ∧ (Lib.cut l p).2.1.length ≤ l.length := by
  unfold Lib.cut; split <;> simp <;> omega
set_option maxHeartbeats 4000000 in
set_option maxRecDepth 100000 in
theorem head_any (l : List UInt8) (w : World) (hl : l.length ≤ 1000000) (hm : Hm w) :
    Calls Tryd.prog 73 #[.string (S l)] w fun e w' => e = .returned (.bool (headOk l)) ∧ Below w.heap.size w w' := by
  rw [← head_same]
  have HH : Hid (headProg l = (Lib.hasPrefix (Lib.trimSuffix l ruleS) xEq && ((Lib.cut (Lib.trimPrefix (Lib.trimSuffix l ruleS) xEq) yEq).2.2 && (numOk (Lib.cut (Lib.trimPrefix (Lib.trimSuffix l ruleS) xEq) yEq).1 && numOk (Lib.cut (Lib.trimPrefix (Lib.trimSuffix l ruleS) xEq) yEq).2.1)))) := mkHid rfl
  have h1 := trim_len l ruleS
  go_enter Tryd.func73, Tryd.ntmps73
  go_wp2_with fail
  refine (trimSuffix_any _ _ l ruleS w rfl rfl hl).mono ?_
  rintro e w' ⟨rfl, hw'⟩
  rw [hw']
  clear hw'
  generalize Lib.trimSuffix l ruleS = m at *
  have h2 := trimP_len m xEq
  go_wp2_with fail
  refine (cutPrefix_any _ _ m xEq w rfl rfl).mono ?_
  rintro e w' ⟨rfl, hw'⟩
  rw [hw']
  clear hw'
  generalize Lib.trimPrefix m xEq = q at *
  generalize Lib.hasPrefix m xEq = b1 at *
  have h3 := lcut_len q yEq
  go_wp2_with fail
  refine (scut_any _ _ q yEq w rfl rfl (by omega) hm).mono ?_
  rintro e w1 ⟨rfl, n1, rfl⟩
  have hb := below_drewN (Below.refl w.heap.size w) n1
  generalize (Lib.cut q yEq) = c at *
  obtain ⟨c1, c2, b2⟩ := c
  dsimp only at *
  generalize w.drewN n1 = W at *
  cases b1 with
  | false =>
    go_wp2_with fail
    go_ret
    exact ⟨retb HH.out.symm, hb⟩
  | true =>
    cases b2 with
    | false =>
      go_wp2_with fail
      go_ret
      exact ⟨retb HH.out.symm, hb⟩
    | true =>
      replace HH : Hid (headProg l = (numOk c1 && numOk c2)) := mkHid HH.out
      go_wp2_with fail
      refine (number_any c1 W (by omega)).mono ?_
      rintro e w2 ⟨rfl, hb2⟩
      have hb3 := hb.trans (hb2.mono hb.size)
      cases hn : numOk c1 with
      | false =>
        rw [hn] at HH
        go_wp2_with fail
        go_ret
        exact ⟨retb HH.out.symm, hb3⟩
      | true =>
        rw [hn] at HH
        go_wp2_with fail
        refine (number_any c2 w2 (by omega)).mono ?_
        rintro e w4 ⟨rfl, hb4⟩
        have hb5 := hb3.trans (hb4.mono hb3.size)
        generalize numOk c2 = b3 at *
        go_wp2_with fail
        go_ret
        exact ⟨retb (by rw [HH.out]; rfl), hb5⟩

theorem hash_prefix (l : List UInt8) : Lib.hasPrefix l [35] = decide (l.head? = some 35) := by
  cases l with
  | nil => rfl
  | cons c r =>
    show [35].isPrefixOf (c :: r) = _
    simp only [List.isPrefixOf, Bool.and_true, List.head?_cons, Option.some.injEq]
    by_cases h : c = 35
    · subst h; rfl
    · have : ((35 : UInt8) == c) = false := by rw [beq_eq_false_iff_ne]; exact fun e => h e.symm
      rw [this]; simp [h]
theorem cut_line (l : List UInt8) : Lib.cut l [10] = if lineLen l < l.length then (l.take (lineLen l), l.drop (lineLen l + 1), true) else (l, [], false) := by
  rw [cut_eq [10] (by decide), lineLen_cut]
  by_cases h : lineLen l < l.length
  · rw [if_pos h, if_pos h]
  · rw [if_neg h, if_neg h]
set_option maxHeartbeats 4000000 in
set_option maxRecDepth 100000 in
theorem begin_any (l : List UInt8) (w : World) (hl : l.length ≤ 1000000) (hm : Hm w) (hs1 : 1 ≤ w.heap.size) :
    Calls Tryd.prog 53 #[.string (S l)] w fun e w' => e = .returned (.int .i64 (hAt l : Nat)) ∧ Below w.heap.size w w' := by
  have hsz := S_size l
  go_enter Tryd.func53, Tryd.ntmps53
  go_wp2
  go_loopw [2] (fun i wr => ∃ k : Nat, k ≤ l.length ∧ i = .int .i64 k ∧ k + hAt (l.drop k) = hAt l ∧ Below w.heap.size w wr) (fun i _ => l.length - (intOf i).toNat)
  case atStart => exact ⟨0, Nat.zero_le _, rfl, by simp, Below.refl _ w⟩
  case round =>
    obtain ⟨k, hk, rfl, hat, hb⟩ := hrel
    have HAT := mkHid hat
    clear hat
    have hmr := hm.below hb hs1
    have hex : (S l).extract k l.length = S (l.drop k) := by rw [S_extract, List.take_length]
    have hkl' : (k : Int) ≤ l.length := by omega
    go_wp2_with fail
    refine (hasPrefix_any _ _ (l.drop k) [35] wr rfl rfl).mono ?_
    rintro e w' ⟨rfl, hw'⟩
    rw [hw', hash_prefix]
    clear hw' w'
    have hrl : (l.drop k).length = l.length - k := by simp
    by_cases h35 : (l.drop k).head? = some 35
    · have hd : decide ((l.drop k).head? = some 35) = true := by simpa using h35
      rw [hd]
      clear hd
      go_wp2_with fail
      refine (scut_any _ _ (l.drop k) [10] wr rfl rfl (by omega) hmr).mono ?_
      rintro e w1 ⟨rfl, n1, rfl⟩
      have hb1 := below_drewN hb n1
      clear hmr hb
      generalize wr.drewN n1 = W at *
      rw [cut_line]
      by_cases hln : lineLen (l.drop k) < (l.drop k).length
      · rw [if_pos hln]
        have HST := Lib.hid (hAt_step h35 hln)
        rw [List.drop_drop] at HST
        have hz2 := S_size ((l.drop k).take (lineLen (l.drop k)))
        have hz3 : ((l.drop k).take (lineLen (l.drop k))).length = lineLen (l.drop k) := by rw [List.length_take]; omega
        rw [hz3] at hz2
        dsimp only
        generalize lineLen (l.drop k) = m at *
        have HN : Hid ((k + (m + 1)) + hAt (l.drop (k + (m + 1))) = hAt l) := mkHid (by rw [← HAT.out, HST.out]; omega)
        clear h35
        go_wp2_with fail
        exact ⟨⟨k + (m + 1), by omega, by simp, HN.out, hb1⟩, by simp [intOf]; omega⟩
      · rw [if_neg hln]
        have HE : Hid (hAt l = k) := mkHid (by rw [← HAT.out, hAt_stop (fun h => hln h.2)]; omega)
        clear h35
        dsimp only
        go_wp2_with fail
        go_ret
        rw [HE.out]
        exact ⟨rfl, hb1⟩
    · have hd : decide ((l.drop k).head? = some 35) = false := by simpa using h35
      rw [hd]
      clear hd
      have HE : Hid (hAt l = k) := mkHid (by rw [← HAT.out, hAt_stop (fun h => h35 h.1)]; omega)
      clear h35
      go_wp2_with fail
      go_ret
      rw [HE.out]
      exact ⟨rfl, hb⟩

set_option maxHeartbeats 4000000 in
set_option maxRecDepth 100000 in
theorem body_any (l : List UInt8) (w : World) (hl : l.length ≤ 1000000) (hm : Hm w) (hs1 : 1 ≤ w.heap.size) :
    Calls Tryd.prog 52 #[.string (S l)] w fun e w' => e = .returned (.tuple #[.int .i64 ((hAt l + lineLen (l.drop (hAt l)) + 1 : Nat) : Int),
      .bool (decide (lineLen (l.drop (hAt l)) < (l.drop (hAt l)).length) && headOk ((l.drop (hAt l)).take (lineLen (l.drop (hAt l)))))]) ∧ Below w.heap.size w w' := by
  have hsz := S_size l
  go_enter Tryd.func52, Tryd.ntmps52
  go_wp2
  go_loopw [4] (fun i wr => ∃ k : Nat, k ≤ l.length ∧ i = .int .i64 k ∧ k + hAt (l.drop k) = hAt l ∧ Below w.heap.size w wr) (fun i _ => l.length - (intOf i).toNat)
  case atStart => exact ⟨0, Nat.zero_le _, rfl, by simp, Below.refl _ w⟩
  case round =>
    obtain ⟨k, hk, rfl, hat, hb⟩ := hrel
    have HAT := mkHid hat
    clear hat
    have hmr := hm.below hb hs1
    have hex : (S l).extract k l.length = S (l.drop k) := by rw [S_extract, List.take_length]
    have hkl' : (k : Int) ≤ l.length := by omega
    have hrl : (l.drop k).length = l.length - k := by simp
    have hle := lineLen_le (l.drop k)
    go_wp2_with fail
    refine (scut_any _ _ (l.drop k) [10] wr rfl rfl (by omega) hmr).mono ?_
    rintro e w1 ⟨rfl, n1, rfl⟩
    have hb1 := below_drewN hb n1
    have hm1 := hm.below hb1 hs1
    clear hmr hb
    generalize wr.drewN n1 = W at *
    rw [cut_line]
    by_cases hln : lineLen (l.drop k) < (l.drop k).length
    · rw [if_pos hln]
      have hz2 := S_size ((l.drop k).take (lineLen (l.drop k)))
      have hz3 : ((l.drop k).take (lineLen (l.drop k))).length = lineLen (l.drop k) := by rw [List.length_take]; omega
      rw [hz3] at hz2
      have hpre : Lib.hasPrefix ((l.drop k).take (lineLen (l.drop k))) [35] = decide ((l.drop k).head? = some 35) := by
        rw [hash_prefix]
        cases hd : l.drop k with
        | nil => simp
        | cons c r =>
          cases hq : isLine c with
          | true => rw [show lineLen (c :: r) = lineLen r + 1 from runLen_cons_true r hq]; rfl
          | false =>
            rw [show lineLen (c :: r) = 0 from runLen_cons_false r hq]
            unfold isLine at hq; simp at hq; subst hq
            rfl
      dsimp only
      go_wp2_with fail
      refine (hasPrefix_any _ _ ((l.drop k).take (lineLen (l.drop k))) [35] W rfl rfl).mono ?_
      rintro e w' ⟨rfl, hw'⟩
      rw [hw', hpre]
      clear hw' w' hpre
      by_cases h35 : (l.drop k).head? = some 35
      · have hd : decide ((l.drop k).head? = some 35) = true := by simpa using h35
        rw [hd]
        clear hd
        have HST := Lib.hid (hAt_step h35 hln)
        rw [List.drop_drop] at HST
        clear h35
        generalize lineLen (l.drop k) = m at *
        have HN : Hid ((k + (m + 1)) + hAt (l.drop (k + (m + 1))) = hAt l) := mkHid (by rw [← HAT.out, HST.out]; omega)
        go_wp2_with fail
        exact ⟨⟨k + (m + 1), by omega, by simp, HN.out, hb1⟩, by simp [intOf]; omega⟩
      · have hd : decide ((l.drop k).head? = some 35) = false := by simpa using h35
        rw [hd]
        clear hd
        have HE : Hid (hAt l = k) := mkHid (by rw [← HAT.out, hAt_stop (fun h => h35 h.1)]; omega)
        clear h35
        go_wp2_with fail
        refine (head_any ((l.drop k).take (lineLen (l.drop k))) W (by omega) hm1).mono ?_
        rintro e w2 ⟨rfl, hb2⟩
        have hb3 := hb1.trans (hb2.mono hb1.size)
        go_wp2_with fail
        go_ret2
        rw [HE.out]
        refine ⟨?_, hb3⟩
        rw [show decide (lineLen (l.drop k) < (l.drop k).length) = true from by simpa using hln, Bool.true_and]
        rfl
    · rw [if_neg hln]
      have HE : Hid (hAt l = k) := mkHid (by rw [← HAT.out, hAt_stop (fun h => hln h.2)]; omega)
      have hz4 : lineLen (l.drop k) = (l.drop k).length := by omega
      have hz2 := S_size (l.drop k)
      dsimp only
      go_wp2_with fail
      go_ret2
      rw [HE.out]
      refine ⟨?_, hb1⟩
      rw [show decide (lineLen (l.drop k) < (l.drop k).length) = false from by simpa using hln, Bool.false_and, hz4, hrl]
      rfl
end Go.Proofs.YtnpndkmcgpaibaaDoor
