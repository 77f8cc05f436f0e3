/- Set and Far walked. -/
import Derived.Test.YtnpndkmcgpaibaaDoorCH
import Derived.StillTailTactics
set_option linter.unusedVariables false
namespace Go.Proofs.YtnpndkmcgpaibaaDoor
open Go.RowKit Go.Sort
attribute [local go_sem high] eqA89

theorem pick62_same (c n : Int) (w : World) (h0 : -9223372036854775808 ≤ c) (h1 : c ≤ 9223372036854775807) (hn : 0 < n) (hn1 : n ≤ 9223372036854775807) :
    Calls Tryd.prog 62 #[.int .i64 c, .int .i64 n] w fun e w' => e = .returned (.int .i64 (pickI c n)) ∧ w' = w :=
  (pick62_any c n w h0 h1 hn hn1).mono fun e w' h => ⟨h.1, h.2.symm⟩
theorem pick26_same (c n : Int) (w : World) (h0 : -9223372036854775808 ≤ c) (h1 : c ≤ 9223372036854775807) (hn : 0 < n) (hn1 : n ≤ 9223372036854775807) :
    Calls Tryd.prog 26 #[.int .i64 c, .int .i64 n] w fun e w' => e = .returned (.int .i64 (pickI c n)) ∧ w' = w :=
  (pick26_any c n w h0 h1 hn hn1).mono fun e w' h => ⟨h.1, h.2.symm⟩
def cellOf (p : Int × Int) : Int × Int := (pickI p.1 16 - 8, pickI p.2 16 - 8)
def setFold (raw : List (Int × Int)) : List (Int × Int) := raw.foldl (fun l p => putL l (cellOf p)) []
def setP (raw : List (Int × Int)) : List (Int × Int) := setFold (raw.take 60)
theorem setFold_succ (l : List (Int × Int)) (k : Nat) (h : k < l.length) : setFold (l.take (k + 1)) = putL (setFold (l.take k)) (cellOf l[k]) := by
  unfold setFold; rw [List.take_succ_eq_append_getElem h, List.foldl_append]; rfl
theorem putL_len (l : List (Int × Int)) (c : Int × Int) : (putL l c).length ≤ l.length + 1 := by
  have := putFold_len c l
  unfold putL
  split
  · rename_i h; rw [h] at this; simp at this; omega
  · rename_i h; simp at h; rw [h] at this; simp at this ⊢; omega
theorem setFold_len (l : List (Int × Int)) : ∀ k, k ≤ l.length → (setFold (l.take k)).length ≤ k := by
  intro k
  induction k with
  | zero => intro _; simp [setFold]
  | succ k ih =>
    intro h
    rw [setFold_succ _ _ h]
    exact Nat.le_trans (putL_len _ _) (by have := ih (by omega); omega)
theorem setP_len (raw : List (Int × Int)) : (setP raw).length ≤ 60 := by
  have := setFold_len (raw.take 60) (raw.take 60).length (Nat.le_refl _)
  rw [List.take_length] at this
  exact Nat.le_trans this (by simp; omega)

set_option maxHeartbeats 4000000 in
set_option maxRecDepth 100000 in
theorem set_walk (v : Value) (raw : List (Int × Int)) (w : World) (hl : raw.length ≤ 4611686018427387904) (hv : RawRow w v raw) :
    Calls Tryd.prog 33 #[v] w fun e w' => ∃ v', e = .returned v' ∧ w'.ownsRow w.heap.size 89 2 v' (setP raw).length (ceCells (setP raw)) ∧ Below w.heap.size w w' := by
  obtain ⟨⟨a, cap, rfl, hcs⟩, hrange⟩ := hv
  have HC := Lib.hid hcs
  have HR := Lib.hid hrange
  clear hcs hrange
  go_enter Tryd.func33, Tryd.ntmps33
  go_wp2
  go_loopw [3, 4] (fun vo i wr => ∃ k : Nat, k ≤ raw.length ∧ k ≤ 60 ∧ i = .int .i64 k ∧ wr.ownsRow w.heap.size 89 2 vo (setFold (raw.take k)).length (ceCells (setFold (raw.take k))) ∧ Below w.heap.size w wr) (fun _ i _ => raw.length - (intOf i).toNat)
  case atStart => exact ⟨0, Nat.zero_le _, Nat.zero_le _, rfl, World.ownsRow_nil _ _ _ _, Below.refl _ w⟩
  case round =>
    obtain ⟨k, hk, hk60, rfl, hown, hbw⟩ := hrel
    have hs := hbw.size
    by_cases hlt : k < raw.length ∧ k < 60
    · obtain ⟨hlt, hlt6⟩ := hlt
      obtain ⟨b, o, rfl, hbs, q0, q1⟩ := HC.out k hlt
      have p0 := (hbw.cell (p := ⟨b, o + k * 2, none⟩) hbs).trans q0
      have p1 := (hbw.cell (p := ⟨b, o + k * 2 + 1, none⟩) hbs).trans q1
      have HSF := Lib.hid (setFold_succ raw k hlt)
      have hrg := HR.out raw[k] (List.getElem_mem hlt)
      have hln := setFold_len raw k hk
      generalize raw[k] = x at *
      generalize setFold (raw.take k) = out at *
      obtain ⟨r1, r2, r3, r4⟩ := hrg
      clear q0 q1
      have b0 := pickI_nonneg x.1 (n := 16) (by omega)
      have b1 := pickI_lt x.1 (n := 16) (by omega)
      have b2 := pickI_nonneg x.2 (n := 16) (by omega)
      have b3 := pickI_lt x.2 (n := 16) (by omega)
      have hlt6' : (k : Int) < 60 := by omega
      have hlt' : (k : Int) < raw.length := by omega
      go_wp2_with fail
      go_still_tail 16, (by kernel_rfl)
      still_call (pick62_same x.1 16 _ r1 r2 (by omega) (by omega))
      repeat still_step
      still_call (pick62_same x.2 16 _ r3 r4 (by omega) (by omega))
      repeat still_step
      refine wpStill_nil ?_
      change wpList _ _ _ _ _ wr.drew
      have hownD := hown.drew
      have hbD := hbw.drew
      clear hown hbw p0 p1
      generalize wr.drew = W at *
      go_wp2_with fail
      refine (put_walk _ out _ _ W (by omega) (crow_of_owns hownD)).mono ?_
      rintro e w' ⟨v', rfl, hown', hb'⟩
      have hown2 := owns_lower hown' hbD.size
      have hbE := hbD.trans (hb'.mono hbD.size)
      clear hown' hb' hownD hbD
      go_wp2_with fail
      exact ⟨⟨k + 1, by omega, by omega, by simp, by rw [HSF.out]; exact hown2, hbE⟩, by simp [intOf]; omega⟩
    · have HI : Hid (setP raw = setFold (raw.take k)) := mkHid (by
        unfold setP
        congr 1
        by_cases h : k < raw.length
        · rw [show k = 60 from by omega]
        · rw [List.take_of_length_le (show raw.length ≤ 60 by omega), List.take_of_length_le (by omega)])
      by_cases hlt2 : k < raw.length
      · have hnot : ¬ (k : Int) < 60 := by omega
        have hyes : (k : Int) < (raw.length : Int) := by omega
        clear hlt
        go_wp2
        go_ret
        exact ⟨_, rfl, by rw [HI.out]; exact hown, hbw⟩
      · clear hlt
        go_wp2
        go_ret
        exact ⟨_, rfl, by rw [HI.out]; exact hown, hbw⟩

theorem put_mem (l : List (Int × Int)) (c x : Int × Int) (h : x ∈ putL l c) : x = c ∨ x ∈ l := by
  have key : ∀ (l : List (Int × Int)) (s : List (Int × Int) × Bool), x ∈ (l.foldl (putStep c) s).1 → x ∈ s.1 ∨ x = c ∨ x ∈ l := by
    intro l
    induction l with
    | nil => intro s h; exact .inl h
    | cons y r ih =>
      intro s h
      rcases ih _ h with h | h | h
      · have hhalf : x ∈ (putHalf c s y).1 → x ∈ s.1 ∨ x = c := by
          intro h
          unfold putHalf at h
          split at h
          · simp at h; exact h
          · exact .inl h
        by_cases hyc : (y == c) = true
        · rw [show putStep c s y = putHalf c s y from by unfold putStep; rw [if_pos hyc]; rfl] at h
          rcases hhalf h with h | h
          · exact .inl h
          · exact .inr (.inl h)
        · rw [show putStep c s y = ((putHalf c s y).1 ++ [y], (putHalf c s y).2) from by unfold putStep; rw [if_neg hyc]; rfl] at h
          rcases List.mem_append.1 h with h | h
          · rcases hhalf h with h | h
            · exact .inl h
            · exact .inr (.inl h)
          · rw [List.mem_singleton] at h; subst h; exact .inr (.inr (List.mem_cons_self ..))
      · exact .inr (.inl h)
      · exact .inr (.inr (List.mem_cons_of_mem _ h))
  have : x ∈ (putFold c l).1 ∨ x = c := by
    unfold putL at h
    split at h
    · exact .inl h
    · simpa using h
  rcases this with h | h
  · rcases key l ([], false) h with h | h | h
    · simp at h
    · exact .inl h
    · exact .inr h
  · exact .inl h
theorem set_mem (raw : List (Int × Int)) (x : Int × Int) (h : x ∈ setP raw) : -8 ≤ x.1 ∧ x.1 ≤ 7 ∧ -8 ≤ x.2 ∧ x.2 ≤ 7 := by
  have key : ∀ (l : List (Int × Int)) (o : List (Int × Int)), (∀ y ∈ o, -8 ≤ y.1 ∧ y.1 ≤ 7 ∧ -8 ≤ y.2 ∧ y.2 ≤ 7) → ∀ y ∈ l.foldl (fun l p => putL l (cellOf p)) o, -8 ≤ y.1 ∧ y.1 ≤ 7 ∧ -8 ≤ y.2 ∧ y.2 ≤ 7 := by
    intro l
    induction l with
    | nil => intro o h; exact h
    | cons a r ih =>
      intro o h
      refine ih _ fun y hy => ?_
      rcases put_mem _ _ _ hy with rfl | hy
      · have b0 := pickI_nonneg a.1 (n := 16) (by omega)
        have b1 := pickI_lt a.1 (n := 16) (by omega)
        have b2 := pickI_nonneg a.2 (n := 16) (by omega)
        have b3 := pickI_lt a.2 (n := 16) (by omega)
        unfold cellOf
        dsimp only
        omega
      · exact h y hy
  exact key _ [] (by simp) x h

/-! ### Far -/
def isFar (far : Int) (i : Nat) : Bool := pickI far 5 == 4 && i % 3 == 1
def farCell (far : Int) (i : Nat) (c : Int × Int) : Int × Int := if isFar far i = true then (c.1 * 100000, c.2 * 1000000) else c
def farFold (far : Int) (l : List (Int × Int)) (k : Nat) : List (Int × Int) := (List.range k).foldl (fun out i => putL out (farCell far i (l.getD i (0, 0)))) []
def farP (raw : List (Int × Int)) (far : Int) : List (Int × Int) := farFold far (setP raw) (setP raw).length
theorem farFold_succ (far : Int) (l : List (Int × Int)) (k : Nat) : farFold far l (k + 1) = putL (farFold far l k) (farCell far k (l.getD k (0, 0))) := by
  unfold farFold; rw [List.range_succ, List.foldl_append]; rfl
theorem farFold_len (far : Int) (l : List (Int × Int)) : ∀ k, (farFold far l k).length ≤ k := by
  intro k
  induction k with
  | zero => simp [farFold]
  | succ k ih => rw [farFold_succ]; exact Nat.le_trans (putL_len _ _) (by omega)
theorem farP_len (raw : List (Int × Int)) (far : Int) : (farP raw far).length ≤ 60 := Nat.le_trans (farFold_len _ _ _) (setP_len raw)

set_option maxHeartbeats 4000000 in
set_option maxRecDepth 100000 in
theorem far_walk (v : Value) (raw : List (Int × Int)) (far : Int) (w : World) (hl : raw.length ≤ 4611686018427387904) (hv : RawRow w v raw) (hf0 : -9223372036854775808 ≤ far) (hf1 : far ≤ 9223372036854775807) :
    Calls Tryd.prog 23 #[v, .int .i64 far] w fun e w' => ∃ v', e = .returned v' ∧ w'.ownsRow w.heap.size 89 2 v' (farP raw far).length (ceCells (farP raw far)) ∧ Below w.heap.size w w' := by
  have b50 := pickI_nonneg far (n := 5) (by omega)
  have b51 := pickI_lt far (n := 5) (by omega)
  go_enter Tryd.func23, Tryd.ntmps23
  go_wp2_with fail
  refine (set_walk v raw w hl hv).mono ?_
  rintro e w' ⟨vs, rfl, hown, hbs⟩
  have hcr := crow_of_owns hown
  have hmem := set_mem raw
  have hsl := setP_len raw
  have HFP : Hid (farP raw far = farFold far (setP raw) (setP raw).length) := mkHid rfl
  generalize setP raw = l at *
  obtain ⟨a, cap, rfl, hcs⟩ := crow_at hcr
  have HC := Lib.hid hcs
  have HM := Lib.hid hmem
  clear hcs hcr hown hmem hv
  go_wp2_with fail
  go_loopw [6, 7] (fun vo i wr => ∃ k : Nat, k ≤ l.length ∧ i = .int .i64 k ∧ wr.ownsRow w.heap.size 89 2 vo (farFold far l k).length (ceCells (farFold far l k)) ∧ Below w.heap.size w wr ∧ Below w'.heap.size w' wr) (fun _ i _ => l.length - (intOf i).toNat)
  case atStart => exact ⟨0, Nat.zero_le _, rfl, World.ownsRow_nil _ _ _ _, hbs, Below.refl _ w'⟩
  case round =>
    obtain ⟨k, hk, rfl, hown, hbw, hbx⟩ := hrel
    have hs := hbw.size
    by_cases hlt : k < l.length
    · obtain ⟨b, o, rfl, hbs', q0, q1⟩ := HC.out k hlt
      have p0 := (hbx.cell (p := ⟨b, o + k * 2, none⟩) hbs').trans q0
      have p1 := (hbx.cell (p := ⟨b, o + k * 2 + 1, none⟩) hbs').trans q1
      have HFS := Lib.hid (farFold_succ far l k)
      rw [getD_at _ _ _ hlt] at HFS
      have hrg := HM.out l[k] (List.getElem_mem hlt)
      have hln := farFold_len far l k
      obtain ⟨⟨x, y⟩, hxy⟩ : ∃ c, l[k] = c := ⟨_, rfl⟩
      rw [hxy] at p0 p1 HFS hrg
      dsimp only at p0 p1 hrg
      generalize farFold far l k = out at *
      obtain ⟨r1, r2, r3, r4⟩ := hrg
      clear q0 q1 hxy
      have hlt' : (k : Int) < l.length := by omega
      have hnb := heap_alloc_new wr (Obj.cells #[Value.int IntKind.i64 x, Value.int IntKind.i64 y] 89)
      have hbwA : Below w.heap.size w (wr.alloc (Obj.cells #[Value.int IntKind.i64 x, Value.int IntKind.i64 y] 89)) := hbw.alloc hbw.size _
      have hbxA : Below w'.heap.size w' (wr.alloc (Obj.cells #[Value.int IntKind.i64 x, Value.int IntKind.i64 y] 89)) := hbx.alloc hbx.size _
      have hbr : Below wr.heap.size wr (wr.alloc (Obj.cells #[Value.int IntKind.i64 x, Value.int IntKind.i64 y] 89)) := (Below.refl _ wr).alloc (Nat.le_refl _) _
      go_wp2_with fail
      refine (pick26_any far 5 _ hf0 hf1 (by omega) (by omega)).mono ?_
      rintro e w2 ⟨rfl, rfl⟩
      generalize (wr.alloc (Obj.cells #[Value.int IntKind.i64 x, Value.int IntKind.i64 y] 89)) = W at *
      obtain ⟨⟨c0, c1⟩, ⟨f0, f1⟩⟩ := two _ _ _ _ _ hnb
      clear p0 p1
      cases hp : (pickI far 5 == 4) with
      | false =>
        have HFC : Hid (farCell far k (x, y) = (x, y)) := mkHid (by unfold farCell isFar; rw [hp]; rfl)
        have hownW := owns_below hown hbr
        clear hown hbr hbw hbx
        go_wp2_with fail
        refine (put_walk _ out _ _ W (by omega) (crow_of_owns hownW)).mono ?_
        rintro e w' ⟨v', rfl, hown', hb'⟩
        have hown2 := owns_lower hown' hbwA.size
        have hbE := hbwA.trans (hb'.mono hbwA.size)
        have hbXE := hbxA.trans (hb'.mono hbxA.size)
        clear hown' hb' hownW hbwA hbxA hnb c0 c1 f0 f1
        go_wp2_with fail
        exact ⟨⟨k + 1, by omega, by simp, by rw [HFS.out, HFC.out]; exact hown2, hbE, hbXE⟩, by simp [intOf]; omega⟩
      | true =>
        cases hr : ((k : Int) % 3 == 1) with
        | false =>
          have HFC : Hid (farCell far k (x, y) = (x, y)) := mkHid (by
            unfold farCell isFar; rw [hp, if_neg]
            intro h; simp at h; simp at hr; omega)
          have hownW := owns_below hown hbr
          clear hown hbr hbw hbx
          go_wp2_with fail
          refine (put_walk _ out _ _ W (by omega) (crow_of_owns hownW)).mono ?_
          rintro e w' ⟨v', rfl, hown', hb'⟩
          have hown2 := owns_lower hown' hbwA.size
          have hbE := hbwA.trans (hb'.mono hbwA.size)
          have hbXE := hbxA.trans (hb'.mono hbxA.size)
          clear hown' hb' hownW hbwA hbxA hnb c0 c1 f0 f1
          go_wp2_with fail
          exact ⟨⟨k + 1, by omega, by simp, by rw [HFS.out, HFC.out]; exact hown2, hbE, hbXE⟩, by simp [intOf]; omega⟩
        | true =>
          have HFC : Hid (farCell far k (x, y) = (x * 100000, y * 1000000)) := mkHid (by
            unfold farCell isFar; rw [hp, if_pos]
            simp at hr ⊢; omega)
          go_wp2_with fail
          have hbrS := (hbr.setCell (p := ⟨wr.heap.size, 0, none⟩) (Nat.le_refl _) (.int .i64 (x * 100000))).setCell (p := ⟨wr.heap.size, 1, none⟩) (Nat.le_refl _) (.int .i64 (y * 1000000))
          have hownW := owns_below hown hbrS
          have hbwA := hbw.trans (hbrS.mono hbw.size)
          have hbxA := hbx.trans (hbrS.mono hbx.size)
          clear hown hbr hbrS hbw hbx hnb c0 c1 f0 f1
          generalize ((W.setCell ⟨wr.heap.size, 0, none⟩ (.int .i64 (x * 100000))).setCell ⟨wr.heap.size, 1, none⟩ (.int .i64 (y * 1000000))) = W at *
          refine (put_walk _ out _ _ W (by omega) (crow_of_owns hownW)).mono ?_
          rintro e w' ⟨v', rfl, hown', hb'⟩
          have hown2 := owns_lower hown' hbwA.size
          have hbE := hbwA.trans (hb'.mono hbwA.size)
          have hbXE := hbxA.trans (hb'.mono hbxA.size)
          clear hown' hb' hownW hbwA hbxA
          go_wp2_with fail
          exact ⟨⟨k + 1, by omega, by simp, by rw [HFS.out, HFC.out]; exact hown2, hbE, hbXE⟩, by simp [intOf]; omega⟩
    · have hkl : k = l.length := by omega
      subst hkl
      have hlt' : ¬ ((l.length : Nat) : Int) < l.length := by omega
      go_wp2_with fail
      go_ret
      rw [HFP.out]
      exact ⟨_, rfl, hown, hbw⟩
end Go.Proofs.YtnpndkmcgpaibaaDoor
