/- Walks of chapter 4's reference: Text, Same. -/
import Derived.Test.YtnpndkmcgpaibaaDoorH
import Derived.Test.YtnpndkmcgpaibaaDoorEq
set_option linter.unusedVariables false
namespace Go.Proofs.YtnpndkmcgpaibaaDoor
open Go.RowKit Go.Sort
attribute [local go_sem high] eqA37

theorem text03_dec (n : Int) (w : World) (h0 : 0 ≤ n) (h1 : n ≤ 4611686018427387903) :
    Calls Tryd.prog 34 #[.int .i64 n] w fun e w' => e = .returned (.string (S (dec n.toNat))) ∧ Below w.heap.size w w' :=
  text03_any (n.toNat + 1) n w h0 h1 (by omega)

set_option maxHeartbeats 4000000 in
set_option maxRecDepth 100000 in
theorem rtext_walk (v : Value) (l : List It) (w : World) (hl : l.length * 24 ≤ 140737488351232) (hv : ItRow w v l) :
    Calls Tryd.prog 16 #[v] w (TextPost l w) := by
  obtain ⟨a, cap, rfl, hcs⟩ := hv
  have HC : Hid _ := hcs
  clear hcs
  go_enter Tryd.func16, Tryd.ntmps16
  go_wp2
  go_loopw [3, 4] (fun vs i wr => ∃ k : Nat, k ≤ l.length ∧ i = .int .i64 k ∧ vs = .string (S (text (l.take k))) ∧ Below w.heap.size w wr) (fun _ i _ => l.length - (intOf i).toNat)
  case atStart =>
    exact ⟨0, Nat.zero_le _, rfl, rfl, Below.refl _ w⟩
  case round =>
    obtain ⟨k, hk, rfl, rfl, hbw⟩ := hrel
    have hs := hbw.size
    by_cases hlt : k < l.length
    · obtain ⟨b, o, rfl, hbs, q0, q1, q2⟩ := HC.out k hlt
      have p0 := (hbw.cell (p := ⟨b, o + k * 3, none⟩) hbs).trans q0
      have p1 := (hbw.cell (p := ⟨b, o + k * 3 + 1, none⟩) hbs).trans q1
      have hstep := text_take l k hlt
      generalize l[k] = x at *
      have HS : Hid _ := hstep
      clear hstep q2
      have htl := text_len (l.take k)
      rw [List.length_take] at htl
      have hsz := S_size (text (l.take k))
      cases htag : isTag x.tag with
      | false =>
        have HT : Hid (text (l.take (k + 1)) = text (l.take k)) := mkHid (by rw [HS.out, itText, if_neg (by rw [htag]; simp), List.append_nil])
        go_wp2_with (go_at_call 35; refine (tag_any x.tag _).mono ?_; rintro e w' ⟨rfl, rfl⟩)
        go_roundw
        case rel => exact ⟨k + 1, by omega, by go_num, by rw [HT.out], hbw⟩
        case measure => simp [intOf]; omega
      | true =>
        by_cases hlo : x.n < 1
        · have HT : Hid (text (l.take (k + 1)) = text (l.take k)) := mkHid (by rw [HS.out, itText, if_neg (by omega), List.append_nil])
          go_wp2_with (go_at_call 35; refine (tag_any x.tag _).mono ?_; rintro e w' ⟨rfl, rfl⟩)
          go_roundw
          case rel => exact ⟨k + 1, by omega, by go_num, by rw [HT.out], hbw⟩
          case measure => simp [intOf]; omega
        · by_cases hhi : 1099511627776 < x.n
          · have HT : Hid (text (l.take (k + 1)) = text (l.take k)) := mkHid (by rw [HS.out, itText, if_neg (by unfold maxCoord; omega), List.append_nil])
            go_wp2_with (go_at_call 35; refine (tag_any x.tag _).mono ?_; rintro e w' ⟨rfl, rfl⟩)
            go_roundw
            case rel => exact ⟨k + 1, by omega, by go_num, by rw [HT.out], hbw⟩
            case measure => simp [intOf]; omega
          · by_cases hone : 1 < x.n
            · have HT : Hid (text (l.take (k + 1)) = text (l.take k) ++ dec x.n.toNat ++ [x.tag]) := mkHid (by
                rw [HS.out, itText, if_pos ⟨htag, by omega, by unfold maxCoord; omega⟩, if_pos hone, List.append_assoc])
              have hdl := dec_len x.n.toNat 12 (by omega)
              have hsd := S_size (dec x.n.toNat)
              go_wp2_with (go_at_call 35; refine (tag_any x.tag _).mono ?_; rintro e w' ⟨rfl, rfl⟩)
              refine (text03_dec x.n _ (by omega) (by omega)).mono ?_
              rintro e w2 ⟨rfl, hb2⟩
              have hbw2 : Below w.heap.size w w2 := hbw.trans (hb2.mono hs)
              have p0' := (hbw2.cell (p := ⟨b, o + k * 3, none⟩) hbs).trans q0
              have hs2 := hbw2.size
              have hcv := byte_string w2 x.tag x.tag.toNat rfl
              have hcat := S_append (text (l.take k)) (dec x.n.toNat)
              have hs3 : (S (text (l.take k) ++ dec x.n.toNat)).size = (text (l.take k)).length + (dec x.n.toNat).length := by rw [S_size, List.length_append]
              have hs4 : (S [x.tag]).size = 1 := S_size [x.tag]
              clear hb2 p0 p1
              go_wp2
              go_roundw
              case rel =>
                refine ⟨k + 1, by omega, by go_num, ?_, hbw2.alloc hs2 _⟩
                rw [HT.out, S_append]
              case measure => simp [intOf]; omega
            · have HT : Hid (text (l.take (k + 1)) = text (l.take k) ++ [x.tag]) := mkHid (by
                rw [HS.out, itText, if_pos ⟨htag, by omega, by unfold maxCoord; omega⟩, if_neg hone, List.nil_append])
              have hcv := byte_string wr x.tag x.tag.toNat rfl
              have hs4 : (S [x.tag]).size = 1 := S_size [x.tag]
              go_wp2_with (go_at_call 35; refine (tag_any x.tag _).mono ?_; rintro e w' ⟨rfl, rfl⟩)
              go_roundw
              case rel =>
                refine ⟨k + 1, by omega, by go_num, ?_, hbw.alloc hs _⟩
                rw [HT.out, S_append]
              case measure => simp [intOf]; omega
    · have : k = l.length := by omega
      subst this
      go_wp2
      go_ret
      exact ⟨by rw [List.take_length]; rfl, hbw⟩

theorem itrow_at {w : World} {v : Value} {l : List It} (h : ItRow w v l) : ∃ a cap, v = .slice a l.length cap ∧ ∀ i (h : i < l.length), ∃ b o, a = some ⟨b, o, none⟩ ∧
    w.cell? ⟨b, o + i * 3, none⟩ = some (.int .u8 (l[i]).tag.toNat) ∧ w.cell? ⟨b, o + i * 3 + 1, none⟩ = some (.int .i64 (l[i]).n) ∧ w.cell? ⟨b, o + i * 3 + 2, none⟩ = some (.int .i64 (l[i]).at_) := by
  obtain ⟨a, cap, hv, h⟩ := h
  exact ⟨a, cap, hv, fun i hi => by obtain ⟨b, o, h1, _, h2⟩ := h i hi; exact ⟨b, o, h1, h2⟩⟩

theorem it_beq (x y : It) : decide (x = y) = (x.tag == y.tag && (x.n == y.n && x.at_ == y.at_)) := by
  obtain ⟨a, b, c⟩ := x
  obtain ⟨a', b', c'⟩ := y
  rw [Bool.eq_iff_iff]; simp
theorem it_step (l l' : List It) (k : Nat) (h : k < l.length) (h' : k < l'.length) (hq : l.take k = l'.take k) : l.take (k + 1) = l'.take (k + 1) ↔ l[k] = l'[k] := by
  have e1 := List.take_succ_eq_append_getElem h
  have e2 := List.take_succ_eq_append_getElem h'
  rw [e1, e2, hq]
  constructor
  · intro h3; exact (List.cons.inj (List.append_cancel_left h3)).1
  · intro h3; rw [h3]

set_option maxHeartbeats 4000000 in
set_option maxRecDepth 100000 in
theorem same_walk (v v' : Value) (l l' : List It) (w : World) (hl : l.length ≤ 4611686018427387904) (hl' : l'.length ≤ 4611686018427387904) (hv : ItRow w v l) (hv' : ItRow w v' l') :
    Calls Tryd.prog 20 #[v, v'] w fun e w' => e = .returned (.bool (decide (l = l'))) ∧ ∃ n, w' = w.drewN n := by
  obtain ⟨a, cap, rfl, hcs⟩ := itrow_at hv
  obtain ⟨a', cap', rfl, hcs'⟩ := itrow_at hv'
  have HC : Hid _ := hcs
  have HC' : Hid _ := hcs'
  clear hcs hcs' hv hv'
  by_cases hlen : l.length = l'.length
  · have HL := Lib.hid hlen
    rw [← hlen]
    clear hlen
    go_enter Tryd.func20, Tryd.ntmps20
    go_wp2
    go_loopw [5] (fun i wr => ∃ (k : Nat) (n : Nat), k ≤ l.length ∧ i = .int .i64 k ∧ wr = w.drewN n ∧ l.take k = l'.take k) (fun i _ => l.length - (intOf i).toNat)
    case atStart => exact ⟨0, 0, Nat.zero_le _, rfl, rfl, rfl⟩
    case round =>
      obtain ⟨k, n, hk, rfl, rfl, heq⟩ := hrel
      have HQ := Lib.hid heq
      clear heq
      by_cases hlt : k < l.length
      · obtain ⟨b, o, rfl, q0, q1, q2⟩ := HC.out k hlt
        obtain ⟨b', o', rfl, q0', q1', q2'⟩ := HC'.out k (by rw [← HL.out]; exact hlt)
        obtain ⟨x, hx⟩ : ∃ x, l[k]'hlt = x := ⟨_, rfl⟩
        obtain ⟨y, hy⟩ : ∃ y, l'[k]'(by rw [← HL.out]; exact hlt) = y := ⟨_, rfl⟩
        rw [hx] at q0 q1 q2
        rw [hy] at q0' q1' q2'
        have HX := Lib.hid hx
        have HY := Lib.hid hy
        have HT := Lib.hid (it_step l l' k hlt (by rw [← HL.out]; exact hlt) HQ.out)
        clear hx hy
        have e0 := u8_eq_int x.tag y.tag
        have hxy : Hid (decide (x = y) = (x.tag == y.tag && (x.n == y.n && x.at_ == y.at_))) := mkHid (it_beq x y)
        generalize hb0 : (x.tag == y.tag) = b0 at *
        generalize hb1 : (x.n == y.n) = b1 at *
        generalize hb2 : (x.at_ == y.at_) = b2 at *
        go_wp2_with fail
        go_quiet (fail)
        have hr : (!b0 || (!b1 || !b2)) = !decide (x = y) := by rw [hxy.out]; cases b0 <;> cases b1 <;> cases b2 <;> rfl
        rw [hr]
        have hdd : (w.drewN n).drewN nq = w.drewN (n + nq) := by show World.mk _ _ _ _ _ = World.mk _ _ _ _ _; simp [World.drewN, Nat.add_assoc]
        rw [hdd]
        clear hr hdd hxy hb0 hb1 hb2 e0 q0 q1 q2 q0' q1' q2'
        by_cases hxy : x = y
        · have hTT : Hid _ := HT.out.2 (by rw [HX.out, HY.out]; exact hxy)
          have hd1 : decide (x = y) = true := by simpa using hxy
          rw [hd1]
          clear hd1 hxy
          go_wp2
          go_roundw
          case rel => exact ⟨k + 1, n + nq, by omega, by go_num, rfl, hTT.out⟩
          case measure => simp [intOf]; omega
        · have hF : Hid (decide (l = l') = false) := mkHid (by
            rw [decide_eq_false_iff_not]; intro h; apply hxy; rw [← HX.out, ← HY.out]; simp only [h])
          have hd1 : decide (x = y) = false := by simpa using hxy
          rw [hd1]
          clear hd1 hxy
          go_wp2
          go_ret
          exact ⟨retb hF.out.symm, n + nq, rfl⟩
      · have hE : Hid (decide (l = l') = true) := mkHid (by
          rw [decide_eq_true_iff]
          have h1 := HQ.out
          rw [List.take_of_length_le (by omega), List.take_of_length_le (by rw [← HL.out]; omega)] at h1
          exact h1)
        go_wp2
        go_ret
        exact ⟨retb hE.out.symm, n, rfl⟩
  · have HE : Hid (decide (l = l') = false) := mkHid (by simp; intro h; exact hlen (by rw [h]))
    have h1 : (l.length == l'.length) = false := by rw [beq_eq_false_iff_ne]; exact hlen
    have h2 : (((l.length : Nat) : Int) == ((l'.length : Nat) : Int)) = false := by rw [beq_eq_false_iff_ne]; omega
    have h3 : (((l.length : Nat) : Int) != ((l'.length : Nat) : Int)) = true := by rw [bne_iff_ne]; omega
    clear hlen
    go_enter Tryd.func20, Tryd.ntmps20
    go_wp2
    go_ret
    exact ⟨retb HE.out.symm, 0, rfl⟩
end Go.Proofs.YtnpndkmcgpaibaaDoor
