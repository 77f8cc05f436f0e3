/- line, cut, number and head of the reference walked. -/
import Derived.Test.YtnpndkmcgpaibaaDoorPD
import Derived.Test.YtnpndkmcgpaibaaDoorCF
set_option linter.unusedVariables false
namespace Go.Proofs.YtnpndkmcgpaibaaDoor
open Go.RowKit Go.Sort

theorem lineLen_at {l : List UInt8} {k : Nat} (hk : k < l.length) (ha : (l.take k).all isLine = true) (h : isLine l[k] = false) : lineLen l = k := by
  have e : l = l.take k ++ l[k] :: l.drop (k + 1) := by rw [← List.drop_eq_getElem_cons hk, List.take_append_drop]
  have := runLen_all (l.take k) l[k] (l.drop (k + 1)) ha h
  rw [← e] at this
  unfold lineLen
  rw [this, List.length_take]
  omega
theorem lineLen_all {l : List UInt8} (ha : l.all isLine = true) : lineLen l = l.length := runLen_all_nil l ha
theorem all_line (l : List UInt8) (k : Nat) (h : k < l.length) : (l.take (k + 1)).all isLine = ((l.take k).all isLine && isLine l[k]) := by
  rw [List.take_succ_eq_append_getElem h, List.all_append]; simp
def lineP (l : List UInt8) : List UInt8 × Bool := if lineLen l < l.length then (l.take (lineLen l), true) else ([], false)

set_option maxHeartbeats 4000000 in
set_option maxRecDepth 100000 in
theorem rline_any (l : List UInt8) (w : World) (hl : l.length ≤ 4611686018427387904) :
    Calls Tryd.prog 58 #[.string (S l)] w fun e w' => e = .returned (.tuple #[.string (S (lineP l).1), .bool (lineP l).2]) ∧ w' = w := by
  have hsz := S_size l
  go_enter Tryd.func58, Tryd.ntmps58
  go_wp2
  go_loopw [4] (fun i wr => ∃ k : Nat, k ≤ l.length ∧ i = .int .i64 k ∧ wr = w ∧ (l.take k).all isLine = true) (fun i _ => l.length - (intOf i).toNat)
  case atStart => exact ⟨0, Nat.zero_le _, rfl, rfl, rfl⟩
  case round =>
    obtain ⟨k, hk, rfl, rfl, hall⟩ := hrel
    have HALL := mkHid hall
    clear hall
    by_cases hlt : k < l.length
    · have hlt' : (k : Int) < l.length := by omega
      have hget := S_get l k (by omega)
      have HAL := Lib.hid (all_line l k hlt)
      have HAT := Lib.hid (lineLen_at hlt HALL.out)
      generalize hc : l[k] = c at *
      cases hq : isLine c with
      | true =>
        have h10 : ((c.toNat : Int) == 10) = false := by
          rw [beq_eq_false_iff_ne]; intro h
          have : c = 10 := UInt8.toNat_inj.1 (by show c.toNat = 10; omega)
          rw [this] at hq; cases hq
        have HN : Hid ((l.take (k + 1)).all isLine = true) := mkHid (by rw [HAL.out, HALL.out, hq]; rfl)
        clear hq
        go_wp2
        exact ⟨⟨k + 1, by omega, by simp, trivial, HN.out⟩, by simp [intOf]; omega⟩
      | false =>
        have h10 : ((c.toNat : Int) == 10) = true := by
          unfold isLine at hq
          simp at hq; rw [hq]; rfl
        have HP : Hid (lineP l = (l.take k, true)) := mkHid (by
          unfold lineP; rw [HAT.out hq, if_pos hlt])
        clear hq
        go_wp2
        go_ret2
        rw [HP.out]
        refine ⟨?_, rfl⟩
        show Ending.returned (.tuple #[.string ((S l).extract 0 k), .bool true]) = .returned (.tuple #[.string (S (l.take k)), .bool true])
        rw [S_extract, List.drop_zero]
    · have hkl : k = l.length := by omega
      subst hkl
      have HP : Hid (lineP l = ([], false)) := mkHid (by
        have := HALL.out
        rw [List.take_length] at this
        unfold lineP; rw [lineLen_all this, if_neg (by omega)])
      have hlt' : ¬ ((l.length : Nat) : Int) < l.length := by omega
      go_wp2
      go_ret2
      rw [HP.out]
      exact ⟨rfl, rfl⟩

def cutV (o : Option (List UInt8 × List UInt8)) : Value := match o with
  | some p => .tuple #[.string (S p.1), .string (S p.2), .bool true]
  | none => .tuple #[.string (S []), .string (S []), .bool false]
theorem prefix_short {p s : List UInt8} (h : s.length < p.length) : p.isPrefixOf s = false := by
  cases hp : p.isPrefixOf s with
  | false => rfl
  | true => have := (List.isPrefixOf_iff_prefix.1 hp).length_le; omega
theorem prefix_take {p s : List UInt8} (h : p.length ≤ s.length) : p.isPrefixOf s = decide (s.take p.length = p) := by
  cases hp : p.isPrefixOf s with
  | true =>
    obtain ⟨t, ht⟩ := List.isPrefixOf_iff_prefix.1 hp
    rw [← ht, List.take_left]; simp
  | false =>
    symm
    rw [decide_eq_false_iff_not]
    intro e
    have : p <+: s := ⟨s.drop p.length, by
      have h2 := List.take_append_drop p.length s
      rw [e] at h2; exact h2⟩
    rw [List.isPrefixOf_iff_prefix.2 this] at hp; cases hp

set_option maxHeartbeats 4000000 in
set_option maxRecDepth 100000 in
theorem rcut_any (sb pb : ByteArray) (l p : List UInt8) (w : World) (hsb : sb = S l) (hpb : pb = S p) (hp : p ≠ []) (hl : l.length ≤ 4611686018427387904) (hpl : p.length ≤ 1000) :
    Calls Tryd.prog 74 #[.string sb, .string pb] w fun e w' => e = .returned (cutV (cutAt p l)) ∧ ∃ n, w' = w.drewN n := by
  subst hsb hpb
  have hsz := S_size l
  have hpz := S_size p
  have hp0 : 0 < p.length := List.length_pos_iff.2 hp
  go_enter Tryd.func74, Tryd.ntmps74
  go_wp2
  go_loopw [7] (fun i wr => ∃ k : Nat, k ≤ l.length ∧ i = .int .i64 k ∧ wr = w ∧ ∀ j, j < k → p.isPrefixOf (l.drop j) = false) (fun i _ => l.length - (intOf i).toNat)
  case atStart => exact ⟨0, Nat.zero_le _, rfl, rfl, fun j hj => by omega⟩
  case round =>
    obtain ⟨k, hk, rfl, rfl, hall⟩ := hrel
    have HALL := mkHid hall
    clear hall
    by_cases hlt : k + p.length ≤ l.length
    · have hlt' : (k : Int) + p.length ≤ l.length := by omega
      have HX : Hid ((S l).extract k (k + p.length) = S ((l.drop k).take p.length)) := mkHid (by
        rw [S_extract, List.drop_take]; congr 2; omega)
      have HPT := Lib.hid (prefix_take (p := p) (s := l.drop k) (by simp; omega))
      cases hq : p.isPrefixOf (l.drop k) with
      | false =>
        have hne : (((S l).extract k (k + p.length)).toList == (S p).toList) = false := by
          rw [beq_eq_false_iff_ne, HX.out, S_toList, S_toList]
          intro e
          have := HPT.out
          rw [hq, e] at this
          simp at this
        have HN : Hid (∀ j, j < k + 1 → p.isPrefixOf (l.drop j) = false) := mkHid fun j hj => by
          by_cases h : j = k
          · rw [h]; exact hq
          · exact HALL.out j (by omega)
        clear hq
        go_wp2_with fail
        exact ⟨⟨k + 1, by omega, by simp, trivial, HN.out⟩, by simp [intOf]; omega⟩
      | true =>
        have hne : (((S l).extract k (k + p.length)).toList == (S p).toList) = true := by
          rw [beq_iff_eq, HX.out, S_toList, S_toList]
          have := HPT.out
          rw [hq] at this
          exact of_decide_eq_true this.symm
        have HC : Hid (cutAt p l = some (l.take k, l.drop (k + p.length))) := mkHid (cutAt_at p hp k l hq HALL.out)
        clear hq
        go_wp2_with fail
        go_quiet (fail)
        go_wp2_with fail
        go_ret3
        rw [HC.out]
        refine ⟨?_, _, rfl⟩
        show Ending.returned (.tuple #[.string ((S l).extract 0 k), .string ((S l).extract (k + p.length) l.length), .bool true]) = .returned (.tuple #[.string (S (l.take k)), .string (S (l.drop (k + p.length))), .bool true])
        rw [S_extract, S_extract, List.drop_zero, List.take_length]
    · have HC : Hid (cutAt p l = none) := mkHid (cutAt_no p hp l fun j => by
        by_cases hj : j < k
        · exact HALL.out j hj
        · exact prefix_short (by simp; omega))
      have hlt' : ¬ (k : Int) + p.length ≤ l.length := by omega
      go_wp2_with fail
      go_ret3
      rw [HC.out]
      exact ⟨rfl, 0, rfl⟩

theorem rnumber_any (l : List UInt8) (w : World) (hl : l.length ≤ 4611686018427387904) :
    Calls Tryd.prog 75 #[.string (S l)] w fun e w' => e = .returned (.bool (numOk l)) ∧ w' = w := by
  go_enter Tryd.func75, Tryd.ntmps75
  go_wp2_with fail
  refine (parse03_any l w hl).mono ?_
  rintro e w' ⟨rfl, rfl⟩
  have HN : Hid (numOk l = ((cparse l).2 == 0)) := mkHid rfl
  generalize (cparse l).1 = c1 at *
  generalize (cparse l).2 = c2 at *
  go_wp2_with fail
  go_ret
  exact ⟨retb HN.out.symm, rfl⟩
theorem cutAt_len (p : List UInt8) (hp : p ≠ []) (l a b : List UInt8) (h : cutAt p l = some (a, b)) : a.length ≤ l.length ∧ b.length ≤ l.length := by
  have := congrArg List.length (cutAt_some p hp l a b h)
  simp at this
  omega
set_option maxHeartbeats 4000000 in
set_option maxRecDepth 100000 in
theorem rhead_any (l : List UInt8) (w : World) (hl : l.length ≤ 1000000) :
    Calls Tryd.prog 59 #[.string (S l)] w fun e w' => e = .returned (.bool (headOk l)) ∧ ∃ n, w' = w.drewN n := by
  have HH : Hid (headOk l = match cutAt xEq l with | some p => p.1.isEmpty && (match cutAt yEq p.2 with | some q => numOk q.1 && tailOk q.2 | none => false) | none => false) := mkHid rfl
  go_enter Tryd.func59, Tryd.ntmps59
  go_wp2_with fail
  refine (rcut_any _ _ l xEq w rfl rfl (by decide) (by omega) (by decide)).mono ?_
  rintro e w1 ⟨rfl, n1, rfl⟩
  cases h1 : cutAt xEq l with
  | none =>
    rw [h1] at HH
    simp only [cutV]
    go_wp2_with fail
    go_ret
    exact ⟨retb HH.out.symm, n1, rfl⟩
  | some p =>
    obtain ⟨e0, r0⟩ := p
    have hlr := (cutAt_len xEq (by decide) l e0 r0 h1).2
    rw [h1] at HH
    clear h1
    simp only [cutV]
    cases e0 with
    | cons c q =>
      have he := S_toList (c :: q)
      go_wp2_with fail
      go_ret
      exact ⟨retb HH.out.symm, n1, rfl⟩
    | nil =>
      have he : (S []).toList = [] := S_toList []
      go_wp2_with fail
      refine (rcut_any _ _ r0 yEq (w.drewN n1) rfl rfl (by decide) (by omega) (by decide)).mono ?_
      rintro e w2 ⟨rfl, n2, rfl⟩
      obtain ⟨n3, hn3⟩ : ∃ n3, (w.drewN n1).drewN n2 = w.drewN n3 := ⟨n1 + n2, by simp [World.drewN, Nat.add_assoc]⟩
      rw [hn3]
      cases h2 : cutAt yEq r0 with
      | none =>
        rw [h2] at HH
        simp only [cutV]
        go_wp2_with fail
        go_ret
        exact ⟨retb HH.out.symm, n3, rfl⟩
      | some p =>
        obtain ⟨a, b⟩ := p
        have hab := cutAt_len yEq (by decide) r0 a b h2
        rw [h2] at HH
        clear h2
        replace HH : Hid (headOk l = (numOk a && tailOk b)) := mkHid HH.out
        simp only [cutV]
        cases hna : numOk a with
        | false =>
          rw [hna] at HH
          go_wp2_with (first | (go_at_call 75; refine (rnumber_any _ _ (by omega)).mono ?_; rintro e w' ⟨rfl, rfl⟩; rw [hna]))
          go_ret
          exact ⟨retb HH.out.symm, n3, rfl⟩
        | true =>
          rw [hna] at HH
          go_wp2_with (first | (go_at_call 75; refine (rnumber_any _ _ (by omega)).mono ?_; rintro e w' ⟨rfl, rfl⟩; rw [hna]))
          refine (rcut_any _ _ b ruleS _ rfl rfl (by decide) (by omega) (by decide)).mono ?_
          rintro e w4 ⟨rfl, n4, rfl⟩
          obtain ⟨n5, hn5⟩ : ∃ n5, (w.drewN n3).drewN n4 = w.drewN n5 := ⟨n3 + n4, by simp [World.drewN, Nat.add_assoc]⟩
          rw [hn5]
          have HT : Hid (tailOk b = match cutAt ruleS b with | some p => numOk p.1 && p.2.isEmpty | none => numOk b) := mkHid rfl
          cases h3 : cutAt ruleS b with
          | none =>
            rw [h3] at HT
            simp only [cutV]
            go_wp2_with (first | (go_at_call 75; refine (rnumber_any _ _ (by omega)).mono ?_; rintro e w' ⟨rfl, rfl⟩))
            go_ret
            exact ⟨retb (by rw [HH.out]; simp [HT.out]), n5, rfl⟩
          | some p =>
            obtain ⟨c, d⟩ := p
            have hcd := cutAt_len ruleS (by decide) b c d h3
            rw [h3] at HT
            clear h3
            replace HT : Hid (tailOk b = (numOk c && d.isEmpty)) := mkHid HT.out
            simp only [cutV]
            have hd := S_toList d
            cases hnc : numOk c with
            | false =>
              go_wp2_with (first | (go_at_call 75; refine (rnumber_any _ _ (by omega)).mono ?_; rintro e w' ⟨rfl, rfl⟩; rw [hnc]))
              go_ret
              exact ⟨retb (by rw [HH.out]; simp [HT.out, hnc]), n5, rfl⟩
            | true =>
              go_wp2_with (first | (go_at_call 75; refine (rnumber_any _ _ (by omega)).mono ?_; rintro e w' ⟨rfl, rfl⟩; rw [hnc]))
              go_ret
              exact ⟨retb (by rw [HH.out]; simp [HT.out, hnc]; try (cases d <;> rfl)), n5, rfl⟩
end Go.Proofs.YtnpndkmcgpaibaaDoor
