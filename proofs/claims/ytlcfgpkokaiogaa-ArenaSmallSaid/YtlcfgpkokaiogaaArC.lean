/- Arenas: clauses that are right; New. -/
import Derived.Test.YtlcfgpkokaiogaaArB
import Derived.Deep.AppendLies
import Derived.Deep.RegionLaw
import Derived.BigRegion
namespace Go.Proofs.Ytlcfgpkokaiogaa
open Go Go.RowKit
set_option linter.unusedVariables false
set_option linter.unusedSimpArgs false
set_option maxHeartbeats 4000000
theorem reads_num {w : World} {B n k : Nat} {A : Option Addr} {l : List Int} {kd : IntKind} (h : Reads w B 1 A n (l.map (Value.int kd))) (hk : k < n) : ∃ ad x, A = some ad ∧ ad.block < B ∧ l[k]? = some x ∧ w.cell? (ad.add k) = some (.int kd x) := by
  obtain ⟨ad, u, e, hb, hx, hc⟩ := h.at_ hk
  rw [List.getElem?_map] at hx
  cases hl : l[k]? with
  | none => rw [hl] at hx; cases hx
  | some x => rw [hl] at hx; simp at hx; subst hx; exact ⟨ad, x, e, hb, rfl, hc⟩
section
variable {w : World}
theorem litRight_any (l : Int) : Calls Try.prog 54 #[.int .i64 l] w fun e w' => e = .returned (.bool (decide (LitOk l))) ∧ w = w' := by
  by_cases h0 : l = 0
  · subst h0
    go_enter Try.func54, Try.ntmps54
    go_wp2
    go_ret
    exact ⟨rfl, rfl⟩
  have e0 : (l != 0) = true := by simpa using h0
  by_cases h1 : -1048576 ≤ l
  · by_cases h2 : l ≤ 1048576
    · have hv : decide (LitOk l) = true := by simp [LitOk, h0, h1, h2]
      rw [hv]
      go_enter Try.func54, Try.ntmps54
      go_wp2
      go_ret
      exact ⟨rfl, rfl⟩
    · have hv : decide (LitOk l) = false := by simp [LitOk, h0, h1, h2]
      have e3 : decide (l ≤ 1048576) = false := by simp; omega
      rw [hv]
      go_enter Try.func54, Try.ntmps54
      go_wp2
      go_ret
      exact ⟨rfl, rfl⟩
  · have hv : decide (LitOk l) = false := by simp [LitOk, h0, h1]
    have e3 : decide (-1048576 ≤ l) = false := by simp; omega
    rw [hv]
    go_enter Try.func54, Try.ntmps54
    go_wp2
    go_ret
    exact ⟨rfl, rfl⟩
theorem wrong_any (l : Int) : Calls Try.prog 48 #[.int .i64 l] w fun e w' => e = .returned (.bool (!decide (LitOk l))) ∧ w = w' := by
  have hr := fun w => litRight_any (w := w) l
  generalize decide (LitOk l) = b at hr ⊢
  replace hr := Lib.hid hr
  go_enter Try.func48, Try.ntmps48
  go_wp2_with (go_at_call 54; refine (hr.out _).mono ?_; rintro e w' ⟨rfl, rfl⟩)
  go_ret
  exact ⟨rfl, rfl⟩
/-- The first literal that is none. -/
def badI (l : List Int) : Int := match l.findIdx? fun x => !decide (LitOk x) with | none => -1 | some i => i
set_option maxRecDepth 100000 in
theorem index_ok (A : Option Addr) (n c B : Nat) (l : List Int) (hrd : Reads w B 1 A n (lits l)) (hn : n ≤ 1048576) :
    Calls Try.prog 53 #[.slice A n c, .func (.func 48) #[] #[]] w fun e w' => e = .returned (.int .i64 (badI l)) ∧ w = w' := by
  have hll : l.length = n := by have := hrd.1; simpa [lits] using this
  have hll' := Lib.hid hll
  clear hll
  go_enter Try.func53, Try.ntmps53
  go_wp2
  go_loopw [8] (fun i wr => ∃ k : Nat, k ≤ n ∧ i = .int .i64 k ∧ (∀ (j : Nat) (x : Int), l[j]? = some x → j < k → LitOk x) ∧ wr = w) (fun i _ => n - (intOf i).toNat)
  case atStart => exact ⟨0, by omega, rfl, fun j x hj hl => by omega, rfl⟩
  case round =>
    obtain ⟨k, hk, rfl, hall, rfl⟩ := hrel
    by_cases hlt : k < n
    · obtain ⟨ad, x, rfl, hab, hx, q0⟩ := reads_num hrd hlt
      have t1 : (k : Int) < (n : Int) := by omega
      have t3 : 0 ≤ (k : Int) := by omega
      have hx' := Lib.hid hx
      have hall' := Lib.hid hall
      have hwr := fun w => wrong_any (w := w) x
      clear hx hall
      by_cases hr : LitOk x
      · have hd : (!decide (LitOk x)) = false := by simpa using hr
        rw [hd] at hwr
        replace hwr := Lib.hid hwr
        replace hr := Lib.hid hr
        clear hd
        go_wp2_with (go_at_call 48; refine (hwr.out _).mono ?_; rintro e w' ⟨rfl, rfl⟩)
        go_roundw
        case rel =>
          refine ⟨k + 1, by omega, by go_num, fun j y hj hjk => ?_, by trivial⟩
          by_cases hjk2 : j = k
          · subst hjk2
            have := hx'.out.symm.trans hj
            cases this
            exact hr.out
          · exact hall'.out j y hj (by omega)
        case measure => simp [intOf]; omega
      · have hd : (!decide (LitOk x)) = true := by simpa using hr
        rw [hd] at hwr
        have hbad : badI l = (k : Int) := by
          have : l.findIdx? (fun x => !decide (LitOk x)) = some k := by
            rw [List.findIdx?_eq_some_iff_getElem]
            obtain ⟨h1, h2⟩ := List.getElem?_eq_some_iff.1 hx'.out
            refine ⟨h1, by rw [h2]; exact hd, fun j hj => ?_⟩
            have := hall'.out j _ (List.getElem?_eq_getElem (by omega)) hj
            simpa using this
          unfold badI
          rw [this]
        replace hwr := Lib.hid hwr
        replace hbad := Lib.hid hbad
        clear hd hr
        go_wp2_with (go_at_call 48; refine (hwr.out _).mono ?_; rintro e w' ⟨rfl, rfl⟩)
        go_ret
        exact ⟨ret_int hbad.out.symm, rfl⟩
    · obtain rfl : k = n := by omega
      have hbad : badI l = -1 := by
        have : l.findIdx? (fun x => !decide (LitOk x)) = none := by
          rw [List.findIdx?_eq_none_iff]
          intro x hx
          obtain ⟨j, hj⟩ := List.mem_iff_getElem?.1 hx
          have := hall j x hj (by have := (List.getElem?_eq_some_iff.1 hj).1; have := hll'.out; omega)
          simpa using this
        unfold badI
        rw [this]
      replace hbad := Lib.hid hbad
      clear hall
      have t1 : ¬ (k : Int) < (k : Int) := by omega
      go_wp2
      go_ret
      exact ⟨ret_int hbad.out.symm, rfl⟩
theorem badI_iff (l : List Int) : 0 ≤ badI l ↔ ¬ ∀ x ∈ l, LitOk x := by
  unfold badI
  cases h : l.findIdx? (fun x => !decide (LitOk x)) with
  | none =>
    rw [List.findIdx?_eq_none_iff] at h
    constructor
    · intro h'; simp at h'
    · intro hc
      exact absurd (fun x hx => by simpa using h x hx) hc
  | some i =>
    rw [List.findIdx?_eq_some_iff_getElem] at h
    obtain ⟨h1, h2, _⟩ := h
    constructor
    · intro _ hc
      have := hc _ (List.getElem_mem h1)
      simp [this] at h2
    · intro _
      simp
theorem badI_bd (l : List Int) (n : Nat) (h : l.length = n) : -1 ≤ badI l ∧ badI l ≤ n := by
  unfold badI
  cases hf : l.findIdx? (fun x => !decide (LitOk x)) with
  | none => simp
  | some i =>
    rw [List.findIdx?_eq_some_iff_getElem] at hf
    obtain ⟨h1, _⟩ := hf
    simp only
    omega
theorem contains_ok (A : Option Addr) (n c B : Nat) (l : List Int) (hrd : Reads w B 1 A n (lits l)) (hn : n ≤ 1048576) :
    Calls Try.prog 47 #[.slice A n c, .func (.func 48) #[] #[]] w fun e w' => e = .returned (.bool (decide (0 ≤ badI l))) ∧ w = w' := by
  have hi := index_ok A n c B l hrd hn
  have hb := badI_bd l n (by have := hrd.1; simpa [lits] using this)
  generalize badI l = i at hi hb ⊢
  replace hi := Lib.hid hi
  clear hrd
  go_enter Try.func47, Try.ntmps47
  go_wp2_with (go_at_call 53; refine hi.out.mono ?_; rintro e w' ⟨rfl, rfl⟩)
  go_ret
  exact ⟨rfl, rfl⟩
theorem right_ok (A : Option Addr) (n c B : Nat) (l : List Int) (hrd : Reads w B 1 A n (lits l)) (hn : n ≤ 9223372036854775807) :
    Calls Try.prog 36 #[.slice A n c] w fun e w' => e = .returned (.bool (decide (ClOk l))) ∧ w = w' := by
  have hll : l.length = n := by have := hrd.1; simpa [lits] using this
  by_cases h1 : n ≤ 4096
  · have hc := contains_ok A n c B l hrd (by omega)
    have hv : decide (ClOk l) = !decide (0 ≤ badI l) := by
      have := badI_iff l
      by_cases h2 : 0 ≤ badI l
      · simp only [h2, decide_true, Bool.not_true, decide_eq_false_iff_not]
        rintro ⟨_, hx⟩
        exact this.1 h2 hx
      · simp only [h2, decide_false, Bool.not_false, decide_eq_true_eq]
        exact ⟨by omega, Classical.not_not.1 (fun hx => h2 (this.2 hx))⟩
    rw [hv]
    generalize decide (0 ≤ badI l) = b at hc ⊢
    replace hc := Lib.hid hc
    have t1 : (n : Int) ≤ 4096 := by omega
    clear hrd hv
    go_enter Try.func36, Try.ntmps36
    go_wp2_with (go_at_call 47; refine hc.out.mono ?_; rintro e w' ⟨rfl, rfl⟩)
    go_ret
    exact ⟨rfl, rfl⟩
  · have hv : decide (ClOk l) = false := by
      simp only [decide_eq_false_iff_not]
      rintro ⟨hx, _⟩
      omega
    have t1 : ¬ (n : Int) ≤ 4096 := by omega
    have t2 : decide ((n : Int) ≤ 4096) = false := by simp; omega
    rw [hv]
    clear hrd hv
    go_enter Try.func36, Try.ntmps36
    go_wp2
    go_ret
    exact ⟨rfl, rfl⟩
end
/-- An arena, its entries hidden. -/
def Arena (W : World) (base d : Nat) (fp : List Nat) (al : List (Nat × List Int)) (last : Nat) : Prop := ∃ vs va es, Arm W base d vs va es last ∧ als es = al ∧ fp = fpOf d vs va
def NewPost (w : World) (e : Ending) (w' : World) : Prop := ∃ d fp, e = .returned (.pointer (some ⟨d, 0, none⟩)) ∧ Arena w' w.heap.size d fp [] 0 ∧ Below w.heap.size w w'
set_option maxRecDepth 100000 in
theorem new_ok (w : World) : Calls Try.prog 13 #[] w (NewPost w) := by
  go_enter Try.func13, Try.ntmps13
  go_wp2_with (refine wpList_build rfl 39 _ rfl #[.slice none 0 0, .slice none 0 0, .int .i64 0, .int .i64 0, .int .i64 0, .bool true] rfl ?_)
  go_ret
  refine ⟨w.heap.size, _, rfl, ⟨.slice none 0 0, .slice none 0 0, [], ⟨Blk.new _ _ _, World.ownsRow_nil _ _ _ _, World.ownsRow_nil _ _ _ _, Nat.le_refl _, Ok.nil⟩, rfl, rfl⟩, (Below.refl _ _).alloc (Nat.le_refl _) _⟩
end Go.Proofs.Ytlcfgpkokaiogaa
