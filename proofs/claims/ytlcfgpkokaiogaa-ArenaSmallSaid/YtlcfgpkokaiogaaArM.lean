/- Arenas: Made, comparing, put. -/
import Derived.Test.YtlcfgpkokaiogaaArL
namespace Go.Proofs.Ytlcfgpkokaiogaa
open Go Go.RowKit Go.Shelf
set_option linter.unusedVariables false
set_option linter.unusedSimpArgs false
set_option maxHeartbeats 4000000
theorem row_new {W W' : World} {base e size n : Nat} {v : Value} {xs : List Value} (h : W.ownsRow base e size v n xs) (hb : Below W.heap.size W W') : W'.ownsRow base e size v n xs := own_only h (only_of_below [] hb) (by simp)
theorem own_below {B : Nat} {a w w' : World} {e : TypeId} {size n : Nat} {v : Value} {xs : List Value} (h : Below B a w) (hB : B ≤ w.heap.size) (ho : w.ownsRow B e size v n xs) (hg : w.grownBy w' v.ownBlock) : Below B a w' :=
  h.grown hg hB (fun k hk => (ho.lt k hk).1)
/-- The literal of a number, the clause of a list of numbers. -/
def madeL (x : Int) : Int := if x % 2 = 1 then -(1 + x / 2 % 8) else 1 + x / 2 % 8
def mkC (l : List Int) : List Int := (l.take 20).map madeL
theorem madeL_ok (x : Int) : LitOk (madeL x) := by
  unfold madeL LitOk
  split <;> omega
theorem mkC_len (l : List Int) : (mkC l).length ≤ 20 := by simp [mkC]; omega
theorem mkC_ok (l : List Int) : ClOk (mkC l) := ⟨by have := mkC_len l; omega, fun x hx => by
  unfold mkC at hx
  obtain ⟨y, _, rfl⟩ := List.mem_map.1 hx
  exact madeL_ok y⟩
/-- What Made answers. -/
def MadeP (w : World) (l : List Int) (e : Ending) (w' : World) : Prop := ∃ A' c', e = .returned (.slice A' l.length c') ∧ w'.ownsRow w.heap.size 30 1 (.slice A' l.length c') l.length (lits l) ∧ Below w.heap.size w w'
def MadeQ (w : World) (n : Nat) (l : List Int) (e : Ending) (w' : World) : Prop := ∃ A' c', e = .returned (.slice A' n c') ∧ w'.ownsRow w.heap.size 30 1 (.slice A' n c') n (lits l) ∧ Below w.heap.size w w'
set_option maxRecDepth 100000 in
theorem made_few (A : Option Addr) (n c B : Nat) (l : List Int) (w : World) (hrd : Reads w B 1 A n (l.map (Value.int .u8))) (hB : B ≤ w.heap.size) (hn : n ≤ 20) (hc : n ≤ c) (hl : ∀ x ∈ l, 0 ≤ x ∧ x ≤ 255) :
    Calls Try.prog 27 #[.slice A n c] w (MadeQ w n (l.map madeL)) := by
  obtain ⟨i0, hi, hz0, hz1, hz2⟩ := info_parts info30
  have hll : l.length = n := by have := hrd.1; simpa using this
  have i1 : (n : Int) ≤ 20 := by omega
  have i2 : ¬ 20 < (n : Int) := by omega
  replace hl := Lib.hid hl
  replace hll := Lib.hid hll
  go_enter Try.func27, Try.ntmps27
  go_wp2
  go_loopw [3, 13] (fun v i wr => ∃ (k : Nat), k ≤ n ∧ i = .int .i64 k ∧ wr.ownsRow w.heap.size 30 1 v k (lits ((l.take k).map madeL)) ∧ Below w.heap.size w wr) (fun _ i _ => n - (intOf i).toNat)
  case atStart => exact ⟨0, by omega, rfl, by simpa [lits] using World.ownsRow_nil w w.heap.size 30 1, Below.refl _ _⟩
  case round =>
    obtain ⟨k, hk, rfl, hv, hB1⟩ := hrel
    obtain ⟨A3, c3, rfl⟩ := own_form hv
    by_cases hlt : k < n
    · obtain ⟨ad, x, rfl, hab, hx, q0⟩ := reads_num (hrd.below (hB1.mono hB)) (show k < n by omega)
      have hxb := hl.out x (List.mem_of_getElem? hx)
      have hsn : (l.take (k + 1)).map madeL = (l.take k).map madeL ++ [madeL x] := by rw [take_snoc hx, List.map_append]; rfl
      have t1 : (k : Int) < (n : Int) := by omega
      have t3 : 0 ≤ (k : Int) := by omega
      replace hx := Lib.hid hx
      replace hsn := Lib.hid hsn
      have m0 : 0 ≤ x / 2 % 8 := by omega
      have m1 : x / 2 % 8 ≤ 7 := by omega
      have h0 := hB1.size
      have hfinal : ∀ (mm : Int) (v' : Value) (w3 : World), mm = madeL x → w3.ownsRow w.heap.size 30 1 v' (k + 1) (lits ((l.take k).map madeL) ++ [.int .i64 mm]) → (wr.alloc (.cells #[.int .i64 mm] 30)).grownBy w3 (Value.slice A3 k c3).ownBlock → w3.ownsRow w.heap.size 30 1 v' (k + 1) (lits ((l.take (k + 1)).map madeL)) ∧ Below w.heap.size w w3 := by
        intro mm v' w3 hm h1 h2
        refine ⟨own_cast h1 rfl (by rw [hsn.out, ← hm]; simp [lits]), own_below (hB1.alloc hB1.size _) (by simp; omega) (row_new hv ((Below.refl _ _).alloc (Nat.le_refl _) _)) h2⟩
      replace hfinal := Lib.hid hfinal
      by_cases hp : x % 2 = 1
      · have hp2 : (x % 2 == 1) = true := by simpa using hp
        have hm : -(1 + x / 2 % 8) = madeL x := (if_pos hp).symm
        clear hp
        replace hm := Lib.hid hm
        go_wp2_with (at_builtin; refine wpList_append_any _ rfl _ _ 29 rfl w.heap.size 30 i0 _ 1 8 Try.underlying29 hi hz0 hz1 hz2 rfl (by omega) (.slice A3 k c3) k (lits ((l.take k).map madeL)) rfl (row_new hv ((Below.refl _ _).alloc (Nat.le_refl _) _)) (wr.heap.size + 1) (some ⟨wr.heap.size, 0, none⟩) 1 1 [.int .i64 (-(1 + x / 2 % 8))] rfl (lit_readsN wr 30 _ 1 rfl) (by simp [Value.oneCell']) (by simp only [maxLen]; omega) (by omega) (by simp; omega) ?_; intro v' w3 hown hgrow hat; have hq := hfinal.out _ v' w3 hm.out hown hgrow; replace hq := Lib.hid hq)
        go_roundw
        case rel => exact ⟨k + 1, by omega, by go_num, hq.out⟩
        case measure => simp [intOf]; omega
      · have hp2 : (x % 2 == 1) = false := by simpa using hp
        have hm : 1 + x / 2 % 8 = madeL x := (if_neg hp).symm
        clear hp
        replace hm := Lib.hid hm
        go_wp2_with (at_builtin; refine wpList_append_any _ rfl _ _ 29 rfl w.heap.size 30 i0 _ 1 8 Try.underlying29 hi hz0 hz1 hz2 rfl (by omega) (.slice A3 k c3) k (lits ((l.take k).map madeL)) rfl (row_new hv ((Below.refl _ _).alloc (Nat.le_refl _) _)) (wr.heap.size + 1) (some ⟨wr.heap.size, 0, none⟩) 1 1 [.int .i64 (1 + x / 2 % 8)] rfl (lit_readsN wr 30 _ 1 rfl) (by simp [Value.oneCell']) (by simp only [maxLen]; omega) (by omega) (by simp; omega) ?_; intro v' w3 hown hgrow hat; have hq := hfinal.out _ v' w3 hm.out hown hgrow; replace hq := Lib.hid hq)
        go_roundw
        case rel => exact ⟨k + 1, by omega, by go_num, hq.out⟩
        case measure => simp [intOf]; omega
    · obtain rfl : k = n := by omega
      rw [List.take_of_length_le (by rw [hll.out]; exact Nat.le_refl _)] at hv
      go_wp2
      go_ret
      exact ⟨A3, c3, rfl, hv, hB1⟩
set_option maxRecDepth 100000 in
theorem made_many (A : Option Addr) (n c B : Nat) (l : List Int) (w : World) (hrd : Reads w B 1 A n (l.map (Value.int .u8))) (hB : B ≤ w.heap.size) (hn : 20 < n) (hm : n ≤ 9223372036854775807) (hc : n ≤ c) (hl : ∀ x ∈ l, 0 ≤ x ∧ x ≤ 255) :
    Calls Try.prog 27 #[.slice A n c] w (MadeQ w 20 ((l.take 20).map madeL)) := by
  obtain ⟨i0, hi, hz0, hz1, hz2⟩ := info_parts info30
  have i1 : 20 < (n : Int) := by omega
  have i2 : ¬ (n : Int) < 20 := by omega
  have i3 : (20 : Int) ≤ (n : Int) := by omega
  have i4 : (20 : Int) ≤ (c : Int) := by omega
  replace hl := Lib.hid hl
  go_enter Try.func27, Try.ntmps27
  go_wp2
  go_loopw [3, 13] (fun v i wr => ∃ (k : Nat), k ≤ 20 ∧ i = .int .i64 k ∧ wr.ownsRow w.heap.size 30 1 v k (lits ((l.take k).map madeL)) ∧ Below w.heap.size w wr) (fun _ i _ => 20 - (intOf i).toNat)
  case atStart => exact ⟨0, by omega, rfl, by simpa [lits] using World.ownsRow_nil w w.heap.size 30 1, Below.refl _ _⟩
  case round =>
    obtain ⟨k, hk, rfl, hv, hB1⟩ := hrel
    obtain ⟨A3, c3, rfl⟩ := own_form hv
    by_cases hlt : k < 20
    · obtain ⟨ad, x, rfl, hab, hx, q0⟩ := reads_num (hrd.below (hB1.mono hB)) (show k < n by omega)
      have hxb := hl.out x (List.mem_of_getElem? hx)
      have hsn : (l.take (k + 1)).map madeL = (l.take k).map madeL ++ [madeL x] := by rw [take_snoc hx, List.map_append]; rfl
      have t1 : (k : Int) < 20 := by omega
      have t3 : 0 ≤ (k : Int) := by omega
      replace hx := Lib.hid hx
      replace hsn := Lib.hid hsn
      have m0 : 0 ≤ x / 2 % 8 := by omega
      have m1 : x / 2 % 8 ≤ 7 := by omega
      have h0 := hB1.size
      have hfinal : ∀ (mm : Int) (v' : Value) (w3 : World), mm = madeL x → w3.ownsRow w.heap.size 30 1 v' (k + 1) (lits ((l.take k).map madeL) ++ [.int .i64 mm]) → (wr.alloc (.cells #[.int .i64 mm] 30)).grownBy w3 (Value.slice A3 k c3).ownBlock → w3.ownsRow w.heap.size 30 1 v' (k + 1) (lits ((l.take (k + 1)).map madeL)) ∧ Below w.heap.size w w3 := by
        intro mm v' w3 hm h1 h2
        refine ⟨own_cast h1 rfl (by rw [hsn.out, ← hm]; simp [lits]), own_below (hB1.alloc hB1.size _) (by simp; omega) (row_new hv ((Below.refl _ _).alloc (Nat.le_refl _) _)) h2⟩
      replace hfinal := Lib.hid hfinal
      by_cases hp : x % 2 = 1
      · have hp2 : (x % 2 == 1) = true := by simpa using hp
        have hm : -(1 + x / 2 % 8) = madeL x := (if_pos hp).symm
        clear hp
        replace hm := Lib.hid hm
        go_wp2_with (at_builtin; refine wpList_append_any _ rfl _ _ 29 rfl w.heap.size 30 i0 _ 1 8 Try.underlying29 hi hz0 hz1 hz2 rfl (by omega) (.slice A3 k c3) k (lits ((l.take k).map madeL)) rfl (row_new hv ((Below.refl _ _).alloc (Nat.le_refl _) _)) (wr.heap.size + 1) (some ⟨wr.heap.size, 0, none⟩) 1 1 [.int .i64 (-(1 + x / 2 % 8))] rfl (lit_readsN wr 30 _ 1 rfl) (by simp [Value.oneCell']) (by simp only [maxLen]; omega) (by omega) (by simp; omega) ?_; intro v' w3 hown hgrow hat; have hq := hfinal.out _ v' w3 hm.out hown hgrow; replace hq := Lib.hid hq)
        go_roundw
        case rel => exact ⟨k + 1, by omega, by go_num, hq.out⟩
        case measure => simp [intOf]; omega
      · have hp2 : (x % 2 == 1) = false := by simpa using hp
        have hm : 1 + x / 2 % 8 = madeL x := (if_neg hp).symm
        clear hp
        replace hm := Lib.hid hm
        go_wp2_with (at_builtin; refine wpList_append_any _ rfl _ _ 29 rfl w.heap.size 30 i0 _ 1 8 Try.underlying29 hi hz0 hz1 hz2 rfl (by omega) (.slice A3 k c3) k (lits ((l.take k).map madeL)) rfl (row_new hv ((Below.refl _ _).alloc (Nat.le_refl _) _)) (wr.heap.size + 1) (some ⟨wr.heap.size, 0, none⟩) 1 1 [.int .i64 (1 + x / 2 % 8)] rfl (lit_readsN wr 30 _ 1 rfl) (by simp [Value.oneCell']) (by simp only [maxLen]; omega) (by omega) (by simp; omega) ?_; intro v' w3 hown hgrow hat; have hq := hfinal.out _ v' w3 hm.out hown hgrow; replace hq := Lib.hid hq)
        go_roundw
        case rel => exact ⟨k + 1, by omega, by go_num, hq.out⟩
        case measure => simp [intOf]; omega
    · obtain rfl : k = 20 := by omega
      go_wp2
      go_ret
      exact ⟨A3, c3, rfl, hv, hB1⟩
theorem made_ok (A : Option Addr) (n c B : Nat) (l : List Int) (w : World) (hrd : Reads w B 1 A n (l.map (Value.int .u8))) (hB : B ≤ w.heap.size) (hm : n ≤ 9223372036854775807) (hc : n ≤ c) (hl : ∀ x ∈ l, 0 ≤ x ∧ x ≤ 255) :
    Calls Try.prog 27 #[.slice A n c] w (MadeP w (mkC l)) := by
  have hll : l.length = n := by have := hrd.1; simpa using this
  by_cases hn : n ≤ 20
  · have he : mkC l = l.map madeL := by unfold mkC; rw [List.take_of_length_le (by omega)]
    have hlen : (l.map madeL).length = n := by simpa using hll
    rw [he]
    refine (made_few A n c B l w hrd hB hn hc hl).mono ?_
    rintro e w' ⟨A', c', rfl, h1, h2⟩
    exact ⟨A', c', by rw [hlen], by rw [hlen]; exact h1, h2⟩
  · have hlen : (mkC l).length = 20 := by simp [mkC]; omega
    refine (made_many A n c B l w hrd hB (by omega) hm hc hl).mono ?_
    rintro e w' ⟨A', c', rfl, h1, h2⟩
    exact ⟨A', c', by rw [hlen], by rw [hlen]; exact h1, h2⟩
theorem equal_lits (A A' : Option Addr) (n c c' : Nat) (l : List Int) (B B' : Nat) (w : World) (h : Reads w B 1 A n (lits l)) (h' : Reads w B' 1 A' n (lits l)) (hn : n ≤ 1099511627776) :
    Calls Try.prog 26 #[.slice A n c, .slice A' n c'] w fun e w' => e = .returned (.bool true) ∧ Below w.heap.size w w' := by
  refine Calls.mono (R := fun e w' => e = .returned (.bool true) ∧ ∃ d, w' = w.drewN d) ?_ (fun e w' h => ⟨h.1, by obtain ⟨d, rfl⟩ := h.2; exact below_drewN_ (Below.refl _ _) d⟩)
  go_enter Try.func26, Try.ntmps26
  go_wp2
  go_loopw [13] (fun i wr => ∃ k d : Nat, k ≤ n ∧ i = .int .i64 k ∧ wr = w.drewN d) (fun i _ => n - (intOf i).toNat)
  case atStart => exact ⟨0, 0, by omega, rfl, rfl⟩
  case round =>
    obtain ⟨k, d, hk, rfl, rfl⟩ := hrel
    by_cases hlt : k < n
    · obtain ⟨ad, x, rfl, _, hx, q1⟩ := reads_num h hlt
      obtain ⟨ad', x', rfl, _, hx', q2⟩ := reads_num h' hlt
      obtain rfl : x = x' := by rw [hx] at hx'; injection hx'
      have hlt2 : (k : Int) < (n : Int) := by omega
      have hk0 : 0 ≤ (k : Int) := by omega
      clear hx hx'
      go_wp2_with fail
      go_quiet (fail)
      go_wp2_with fail
      go_roundw
      case rel => exact ⟨k + 1, _, by omega, by go_num, rfl⟩
      case measure => simp [intOf]; omega
    · obtain rfl : k = n := by omega
      go_wp2_with fail
      go_ret
      exact ⟨rfl, d, rfl⟩
end Go.Proofs.Ytlcfgpkokaiogaa
