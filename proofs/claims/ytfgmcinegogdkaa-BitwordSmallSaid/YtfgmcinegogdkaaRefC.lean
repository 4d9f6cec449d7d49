/- The reference's Bits, bitwise. -/
import Derived.Test.YtfgmcinegogdkaaRefB
import Derived.Maps.AppendAt
namespace Go.Proofs.Ytfgmcinegogdkaa
open Go.RowKit
set_option linter.unusedVariables false
set_option linter.unusedSimpArgs false
set_option maxHeartbeats 2000000
/-- Bit j of a number. -/
def bitI (x : Int) (j : Nat) : Bool := x / 2 ^ j % 2 == 1
theorem half_step (x : Int) (k : Nat) : x / 2 ^ k / 2 = x / 2 ^ (k + 1) := by
  rw [Int.ediv_ediv_of_nonneg (Int.le_of_lt (Int.pow_pos (by omega)))]
  rw [Int.pow_succ]
theorem rbits_ok (x n : Int) (h1 : 0 ≤ n) (h2 : n ≤ 16) (hx : 0 ≤ x) (hx' : x ≤ 4294967295) (w : World) :
    Calls Try.prog 37 #[.int .i64 x, .int .i64 n] w fun e w' => ∃ v, e = .returned v ∧ w'.ownsRow w.heap.size 4 1 v n.toNat ((List.range n.toNat).map fun j => Value.bool (bitI x j)) ∧ Below w.heap.size w w' := by
  obtain ⟨m, rfl⟩ := Int.eq_ofNat_of_zero_le h1
  rw [Int.toNat_natCast]
  obtain ⟨i0, hi, hz0, hz1, hz2⟩ := info_parts Try.info4
  go_enter Try.func37, Try.ntmps37
  go_wp2
  go_loopw [0, 5, 6] (fun q v i wr => ∃ k : Nat, k ≤ m ∧ i = .int .i64 k ∧ q = .int .i64 (x / 2 ^ k) ∧ wr.ownsRow w.heap.size 4 1 v k ((List.range k).map fun j => Value.bool (bitI x j)) ∧ Below w.heap.size w wr) (fun _ _ i _ => m - (intOf i).toNat)
  case atStart => exact ⟨0, by omega, rfl, by simp, World.ownsRow_nil _ _ _ _, Below.refl _ _⟩
  case round =>
    obtain ⟨k, hk, rfl, rfl, hown, hB⟩ := hrel
    by_cases hlt : k < m
    · have hq0 : 0 ≤ x / 2 ^ k := Int.ediv_nonneg hx (Int.le_of_lt (Int.pow_pos (by omega)))
      have hq1 : x / 2 ^ k ≤ x := Int.ediv_le_self _ hx
      have hs := Lib.hid (half_step x k)
      go_wp2_with (at_builtin; refine wpList_append_own _ rfl _ _ 35 rfl w.heap.size 4 i0 (.bool false) 1 1 Try.underlying35 hi hz0 hz1 hz2 rfl (by decide) _ _ _ rfl (hown.alloc _) ⟨wr.heap.size, 0, none⟩ 1 1 [.bool (x / 2 ^ k % 2 == 1)] rfl rfl ?c1 ?c2 ?c3 ?c4 ?c5 ?_)
      case c1 => exact cell_one_new _ _ _
      case c2 => intro u hu; simp at hu; subst hu; rfl
      case c3 => unfold maxLen; omega
      case c4 => omega
      case c5 => have := hB.size; simp; omega
      intro v' w1 hown' hgrow _
      have hB' : Below w.heap.size w w1 := (hB.alloc hB.size _).grown hgrow (by have := hB.size; simp; omega) (fun j e => by
        rcases hown.2 with ⟨rfl, _⟩ | ⟨g, cap, cur, rfl, hg, _⟩
        · cases e
        · simp [Value.ownBlock] at e; omega)
      clear hown hgrow
      go_wp2
      go_roundw
      case rel => exact ⟨k + 1, by omega, by go_num, by rw [hs.out], by rw [List.range_succ, List.map_append]; exact hown', hB'⟩
      case measure => simp [intOf]; omega
    · obtain rfl : k = m := by omega
      go_wp2
      go_ret
      exact ⟨_, rfl, hown, hB⟩
theorem numB_testBit (f : Nat → Bool) (n : Nat) : ∀ i, (numB f n).testBit i = (decide (i < n) && f i) := by
  induction n with
  | zero => intro i; simp [numB]
  | succ n ih =>
    intro i
    have h1 := numB_lt f n
    have e : numB f (n + 1) = (if f n then 2 ^ n else 0) ||| numB f n := by
      show numB f n + (if f n then 2 ^ n else 0) = _
      split
      · rw [nat_join n (2 ^ n) (numB f n) (by simp) h1, Nat.add_comm]
      · simp
    rw [e, Nat.testBit_or, ih]
    by_cases h : i = n
    · subst h
      cases hf : f i <;> simp [hf]
    · have h2 : (if f n then 2 ^ n else 0 : Nat).testBit i = false := by
        split
        · rw [Nat.testBit_two_pow]; simp; omega
        · simp
      rw [h2, Bool.false_or]
      by_cases h3 : i < n
      · simp [h3, Nat.lt_succ_of_lt h3]
      · simp [h3, show ¬ i < n + 1 by omega]
theorem bitI_testBit (x : Int) (hx : 0 ≤ x) (j : Nat) : bitI x j = x.toNat.testBit j := by
  obtain ⟨m, rfl⟩ := Int.eq_ofNat_of_zero_le hx
  unfold bitI
  rw [Int.toNat_natCast, Nat.testBit_eq_decide_div_mod_eq]
  have e : ((m : Int) / 2 ^ j % 2) = ((m / 2 ^ j % 2 : Nat) : Int) := by simp
  rw [e]
  by_cases h : m / 2 ^ j % 2 = 1
  · simp [h]
  · simp only [h, decide_false]
    exact beq_eq_false_iff_ne.2 (by omega)
/-- What the bits of two words give, bit by bit. -/
def bopF (op : Int) (x y : Int) (j : Nat) : Bool := if op = 8 then bitI x j && bitI y j else if op = 9 then bitI x j || bitI y j else bitI x j != bitI y j
theorem num_bop (op : Int) (ho : 8 ≤ op) (ho' : op ≤ 10) (n : Nat) (x y m : Int) (hx : 0 ≤ x) (hy : 0 ≤ y) (hx' : x.toNat < 2 ^ n) (hy' : y.toNat < 2 ^ n) : ((numB (bopF op x y) n : Nat) : Int) = opW op.toNat x y m := by
  have hlt : ∀ i, n ≤ i → x.toNat.testBit i = false ∧ y.toNat.testBit i = false := fun i hi => by
    have hp : (2 : Nat) ^ n ≤ 2 ^ i := Nat.pow_le_pow_right (by omega) hi
    exact ⟨Nat.testBit_lt_two_pow (by omega), Nat.testBit_lt_two_pow (by omega)⟩
  have h3 : op = 8 ∨ op = 9 ∨ op = 10 := by omega
  rcases h3 with rfl | rfl | rfl
  · show _ = ((x.toNat &&& y.toNat : Nat) : Int)
    congr 1
    apply Nat.eq_of_testBit_eq
    intro i
    rw [numB_testBit, Nat.testBit_and]
    by_cases h : i < n
    · simp [h, bopF, bitI_testBit, hx, hy]
    · simp [h, hlt i (by omega)]
  · show _ = ((x.toNat ||| y.toNat : Nat) : Int)
    congr 1
    apply Nat.eq_of_testBit_eq
    intro i
    rw [numB_testBit, Nat.testBit_or]
    by_cases h : i < n
    · simp [h, bopF, bitI_testBit, hx, hy]
    · simp [h, hlt i (by omega)]
  · show _ = ((x.toNat ^^^ y.toNat : Nat) : Int)
    congr 1
    apply Nat.eq_of_testBit_eq
    intro i
    rw [numB_testBit, Nat.testBit_xor]
    by_cases h : i < n
    · simp [h, bopF, bitI_testBit, hx, hy]
    · simp [h, hlt i (by omega)]
theorem row_open {w : World} {base n : Nat} {v : Value} {f : Nat → Value} (hn : 0 < n) (h : w.ownsRow base 4 1 v n ((List.range n).map f)) :
    ∃ g cap cs, v = .slice (some ⟨g, 0, none⟩) n cap ∧ base ≤ g ∧ w.heap[g]? = some (.cells cs 4 (0, 0)) ∧ ∀ j, j < n → cs[j]? = some (f j) := by
  rcases h.2 with ⟨_, h0⟩ | ⟨g, cap, cur, hv, hg, hh, r⟩
  · omega
  · refine ⟨g, cap, cur, hv, hg, hh, fun j hj => ?_⟩
    have h4 := r.2.2.2
    rw [Nat.mul_one] at h4
    have h5 : (List.take n cur.toList)[j]? = some (f j) := by rw [h4]; simp [hj]
    rw [List.getElem?_take, if_pos hj] at h5
    simpa using h5
set_option maxRecDepth 100000 in
theorem bitwise_ok (op n x y : Int) (ho : 8 ≤ op) (ho' : op ≤ 10) (h1 : 1 ≤ n) (h2 : n ≤ 16) (hx : 0 ≤ x) (hx' : x ≤ 65535) (hy : 0 ≤ y) (hy' : y ≤ 65535) (w : World) :
    Calls Try.prog 61 #[.int .i64 op, .int .i64 n, .int .i64 x, .int .i64 y] w fun e w' => e = .returned (.int .i64 (numB (bopF op x y) n.toNat)) ∧ Below w.heap.size w w' := by
  obtain ⟨m, rfl⟩ := Int.eq_ofNat_of_zero_le (show 0 ≤ n by omega)
  rw [Int.toNat_natCast]
  have hm : 0 < m := by omega
  have h2nat : m ≤ 16 := by omega
  go_enter Try.func61, Try.ntmps61
  go_wp2_with fail
  refine (rbits_ok x m (by omega) h2 hx (by omega) _).mono ?_
  rintro e w1 ⟨v1, rfl, r1, hB1⟩
  rw [Int.toNat_natCast] at r1
  obtain ⟨ga, capa, ca, rfl, hga, hha, hca⟩ := row_open hm r1
  clear r1
  go_wp2_with fail
  refine (rbits_ok y _ (by omega) h2 hy (by omega) _).mono ?_
  rintro e w2 ⟨v2, rfl, r2, hB2⟩
  rw [Int.toNat_natCast] at r2
  obtain ⟨gb, capb, cb, rfl, hgb, hhb, hcb⟩ := row_open hm r2
  clear r2
  have hga1 : ga < w1.heap.size := (Array.getElem?_eq_some_iff.1 hha).1
  have hha2 : w2.heap[ga]? = some (.cells ca 4 (0, 0)) := (hB2.block ga hga1).trans hha
  have hB : Below w.heap.size w w2 := hB1.trans (hB2.mono hB1.size)
  clear hha hB1 hB2
  have hne : ga ≠ gb := by omega
  clear hga1
  have HCA := Lib.hid hca
  have HCB := Lib.hid hcb
  clear hca hcb
  go_wp2_with fail
  go_loopw [11] (fun i wr => ∃ k : Nat, k ≤ m ∧ i = .int .i64 k ∧ (∃ c : Array Value, wr.heap[ga]? = some (.cells c 4 (0, 0)) ∧ ∀ j, j < m → c[j]? = some (.bool (if j < k then bopF op x y j else bitI x j))) ∧ wr.heap[gb]? = some (.cells cb 4 (0, 0)) ∧ Below w.heap.size w wr) (fun i _ => m - (intOf i).toNat)
  case atStart => exact ⟨0, by omega, rfl, ⟨ca, hha2, fun j hj => by rw [if_neg (by omega)]; exact HCA.out j hj⟩, hhb, hB⟩
  case round =>
    clear hha2 hhb hB
    obtain ⟨k, hk, rfl, ⟨c, hc, hcs⟩, hb, hB⟩ := hrel
    have HCS := Lib.hid hcs
    clear hcs
    by_cases hlt : k < m
    · have q1 : wr.cell? ⟨ga, k, none⟩ = some (.bool (bitI x k)) := by
        have : wr.cell? ⟨ga, k, none⟩ = c[k]? := by simp [World.cell?, hc]
        rw [this, HCS.out k hlt, if_neg (by omega)]
      have q2 : wr.cell? ⟨gb, k, none⟩ = some (.bool (bitI y k)) := by
        have : wr.cell? ⟨gb, k, none⟩ = cb[k]? := by simp [World.cell?, hb]
        rw [this]; exact HCB.out k hlt
      have q3 : wr.frozen? ⟨ga, k, none⟩ = false := by simp [World.frozen?, hc]
      have hrow : ∀ (d : Nat) (u : Value), u = .bool (bopF op x y k) → ∃ c' : Array Value, ((wr.drewN d).setCell ⟨ga, k, none⟩ u).heap[ga]? = some (.cells c' 4 (0, 0)) ∧ ∀ j, j < m → c'[j]? = some (.bool (if j < k + 1 then bopF op x y j else bitI x j)) := fun d u hu => by
        subst hu
        refine ⟨c.setIfInBounds k (.bool (bopF op x y k)), heap_setCell_same (wr.drewN d) ga k c 4 _ hc, fun j hj => ?_⟩
        rw [Array.getElem?_setIfInBounds]
        have hsz : k < c.size := (Array.getElem?_eq_some_iff.1 (HCS.out k hlt)).1
        by_cases e : k = j
        · subst e; rw [if_pos rfl, if_pos hsz, if_pos (by omega)]
        · rw [if_neg e, HCS.out j hj]
          by_cases e2 : j < k
          · rw [if_pos e2, if_pos (by omega)]
          · rw [if_neg e2, if_neg (by omega)]
      have HROW := Lib.hid hrow
      have hbb : ∀ (d : Nat) (u : Value), ((wr.drewN d).setCell ⟨ga, k, none⟩ u).heap[gb]? = some (.cells cb 4 (0, 0)) := fun d u => by
        rw [heap_setCell_other _ _ _ _ (Ne.symm hne)]; exact hb
      have HBB := Lib.hid hbb
      have hBB : ∀ (d : Nat) (u : Value), Below w.heap.size w ((wr.drewN d).setCell ⟨ga, k, none⟩ u) := fun d u => (below_drewN hB d).setCell (p := ⟨ga, k, none⟩) hga _
      have HBL := Lib.hid hBB
      have HXY : Hid (Bool → True) := fun _ => trivial
      clear hrow hbb hBB hc hb HCA HCB HCS
      have h3 : op = 8 ∨ op = 9 ∨ op = 10 := by omega
      rcases h3 with rfl | rfl | rfl
      · have hf : Hid (bopF 8 x y k = (bitI x k && bitI y k)) := rfl
        cases hbx : bitI x k
        · rw [hbx] at q1
          have HX := Lib.hid hbx
          clear hbx
          go_wp2_with fail
          go_roundw
          case rel => exact ⟨k + 1, by omega, by go_num, HROW.out 0 _ (by rw [hf.out, HX.out]; rfl), HBB.out 0 _, HBL.out 0 _⟩
          case measure => simp [intOf]; omega
        · rw [hbx] at q1
          have HX := Lib.hid hbx
          clear hbx
          generalize hby : bitI y k = t at *
          have HY := Lib.hid hby
          clear hby
          go_wp2_with fail
          go_roundw
          case rel => exact ⟨k + 1, by omega, by go_num, HROW.out 0 _ (by rw [hf.out, HX.out]; simp), HBB.out 0 _, HBL.out 0 _⟩
          case measure => simp [intOf]; omega
      · have hf : Hid (bopF 9 x y k = (bitI x k || bitI y k)) := rfl
        cases hbx : bitI x k
        · rw [hbx] at q1
          have HX := Lib.hid hbx
          clear hbx
          generalize hby : bitI y k = t at *
          have HY := Lib.hid hby
          clear hby
          go_wp2_with fail
          go_roundw
          case rel => exact ⟨k + 1, by omega, by go_num, HROW.out 0 _ (by rw [hf.out, HX.out]; simp), HBB.out 0 _, HBL.out 0 _⟩
          case measure => simp [intOf]; omega
        · rw [hbx] at q1
          have HX := Lib.hid hbx
          clear hbx
          go_wp2_with fail
          go_roundw
          case rel => exact ⟨k + 1, by omega, by go_num, HROW.out 0 _ (by rw [hf.out, HX.out]; rfl), HBB.out 0 _, HBL.out 0 _⟩
          case measure => simp [intOf]; omega
      · have hf : Hid (bopF 10 x y k = (bitI x k != bitI y k)) := rfl
        have hxk : (0 : Int) ≤ (k : Int) := by omega
        have hxm : (k : Int) < (m : Int) := by omega
        go_wp2_with fail
        go_region
        all_goals
          go_wp2_with fail
          go_roundw
          case rel => exact ⟨k + 1, by omega, by go_num, HROW.out 1 _ (by rw [hf.out]; cases bitI x k <;> cases bitI y k <;> rfl), HBB.out 1 _, HBL.out 1 _⟩
          case measure => simp [intOf]; omega
    · obtain rfl : k = m := by omega
      go_wp2_with fail
      refine (join_ok ga 0 k capa (bopF op x y) h2nat _ (fun j hj => ?_)).mono ?_
      · have : wr.cell? ⟨ga, 0 + j, none⟩ = c[j]? := by simp [World.cell?, hc]
        rw [this, HCS.out j hj, if_pos hj]
      rintro e w' ⟨rfl, rfl⟩
      go_wp2_with fail
      go_ret
      exact ⟨rfl, hB⟩
end Go.Proofs.Ytfgmcinegogdkaa
