/- names: what BitwordNames asks, without the examples. -/
import Derived.Test.YtfgmcinegogdkaaRefB
namespace Go.Proofs.Ytfgmcinegogdkaa
open Go.RowKit
set_option linter.unusedVariables false
set_option maxHeartbeats 2000000
def namesL : Array Value := #[str [], str [126], str [45], str [43], str [45], str [42], str [47], str [37], str [38], str [124], str [94], str [60,60], str [62,62], str [61,61], str [33,61], str [60], str [60,61]]
theorem namesL_at (k : Nat) (h : k ≤ 16) : namesL[k]? = some (.string (nameT k)) := by
  by_cases hz : k = 0
  · subst hz; rfl
  · refine opCases (P := fun k => namesL[k]? = some (.string (nameT k))) k (by omega) h ?_ ?_ ?_ ?_ ?_ ?_ ?_ ?_ ?_ ?_ ?_ ?_ ?_ ?_ ?_ ?_ <;> rfl
theorem rnames_ok (w : World) : Calls Try.prog 21 #[] w fun e w' => e = .returned (.slice (some ⟨w.heap.size, 0, none⟩) 17 17) ∧ w.alloc (.cells namesL 9) = w' := by
  go_enter Try.func21, Try.ntmps21
  go_wp2
  go_ret
  exact ⟨rfl, rfl⟩
/-- No two operations have one name and one number of words. -/
theorem isIt_unique (s : ByteArray) (two : Bool) (i j : Nat) (hi : 1 ≤ i) (hi' : i ≤ 16) (hj : 1 ≤ j) (hj' : j ≤ 16) (h : isIt s two i = true) (h' : isIt s two j = true) : i = j := by
  unfold isIt at h h'
  rw [Bool.and_eq_true, beq_iff_eq, beq_iff_eq] at h h'
  have e1 : (nameT i).toList = (nameT j).toList := h.1.trans h'.1.symm
  have e2 : twoT i = twoT j := h.2.trans h'.2.symm
  have key : ((List.range 17).all fun i => (List.range 17).all fun j => Nat.beq i 0 || Nat.beq j 0 || Nat.beq i j || !((nameT i).toList == (nameT j).toList && twoT i == twoT j)) = true := by kernel_rfl
  have k1 := List.all_eq_true.1 key i (List.mem_range.2 (by omega))
  have k2 := List.all_eq_true.1 k1 j (List.mem_range.2 (by omega))
  rw [e1, e2] at k2
  simp at k2
  omega
/-- The last operation below k with a name; 0 if there is none. -/
def wantK (s : ByteArray) (two : Bool) : Nat → Nat
  | 0 => 0
  | k + 1 => if 0 < k ∧ isIt s two k = true then k else wantK s two k
theorem wantK_spec (s : ByteArray) (two : Bool) (k : Nat) : (wantK s two k = 0 ∧ ∀ i, 1 ≤ i → i < k → isIt s two i = false) ∨ (1 ≤ wantK s two k ∧ wantK s two k < k ∧ isIt s two (wantK s two k) = true) := by
  induction k with
  | zero => exact .inl ⟨rfl, fun i h1 h2 => by omega⟩
  | succ k ih =>
    show ((if 0 < k ∧ isIt s two k = true then k else wantK s two k) = 0 ∧ _) ∨ _
    by_cases h : 0 < k ∧ isIt s two k = true
    · have e : wantK s two (k + 1) = k := if_pos h
      rw [e]
      exact .inr ⟨h.1, by omega, h.2⟩
    · have e : wantK s two (k + 1) = wantK s two k := if_neg h
      rw [if_neg h, e]
      rcases ih with ⟨h1, h2⟩ | ⟨h1, h2, h3⟩
      · refine .inl ⟨h1, fun i hi hi' => ?_⟩
        by_cases hk : i = k
        · subst hk
          cases hb : isIt s two i
          · rfl
          · exact absurd ⟨by omega, hb⟩ h
        · exact h2 i hi (by omega)
      · exact .inr ⟨h1, by omega, h3⟩
theorem findFrom_spec (s : ByteArray) (two : Bool) (f : Nat) : ∀ k, 1 ≤ k → (findFrom s two f k = 0 ∧ ∀ i, k ≤ i → i < k + f → isIt s two i = false) ∨ (1 ≤ findFrom s two f k ∧ findFrom s two f k < k + f ∧ isIt s two (findFrom s two f k) = true) := by
  induction f with
  | zero => intro k hk; exact .inl ⟨rfl, fun i h1 h2 => by omega⟩
  | succ f ih =>
    intro k hk
    show ((if isIt s two k then k else findFrom s two f (k + 1)) = 0 ∧ _) ∨ _
    by_cases h : isIt s two k = true
    · have e : findFrom s two (f + 1) k = k := if_pos h
      rw [e]
      exact .inr ⟨hk, by omega, h⟩
    · have e : findFrom s two (f + 1) k = findFrom s two f (k + 1) := if_neg h
      rw [if_neg h, e]
      rcases ih (k + 1) (by omega) with ⟨h1, h2⟩ | ⟨h1, h2, h3⟩
      · refine .inl ⟨h1, fun i hi hi' => ?_⟩
        by_cases hk : i = k
        · subst hk; simpa using h
        · exact h2 i (by omega) (by omega)
      · exact .inr ⟨h1, by omega, h3⟩
theorem want_find (s : ByteArray) (two : Bool) : wantK s two 17 = findT s two := by
  show wantK s two 17 = findFrom s two 16 1
  rcases wantK_spec s two 17 with ⟨h1, h2⟩ | ⟨h1, h2, h3⟩
  · rcases findFrom_spec s two 16 1 (by omega) with ⟨g1, g2⟩ | ⟨g1, g2, g3⟩
    · rw [h1]; exact g1.symm
    · have := h2 (findFrom s two 16 1) g1 (by omega)
      rw [g3] at this; cases this
  · rcases findFrom_spec s two 16 1 (by omega) with ⟨g1, g2⟩ | ⟨g1, g2, g3⟩
    · have := g2 _ h1 (by omega)
      rw [h3] at this; cases this
    · exact isIt_unique s two _ _ h1 (by omega) g1 (by omega) h3 g3
def nameK (op : Nat) (k : Nat) : ByteArray := if op < k then nameT op else ⟨#[]⟩
theorem nameK_step (op k : Nat) (h : ¬ (0 < k ∧ k = op)) : nameK op (k + 1) = nameK op k := by
  unfold nameK
  by_cases h1 : op < k
  · rw [if_pos h1, if_pos (by omega)]
  · rw [if_neg h1]
    by_cases h2 : op < k + 1
    · rw [if_pos h2, nameT_bad op (by omega)]
    · rw [if_neg h2]
theorem nameK_all (op : Nat) : nameK op 17 = nameT op := by
  unfold nameK
  by_cases h : op < 17
  · rw [if_pos h]
  · rw [if_neg h, nameT_bad op (by omega)]
theorem isIt_of (s : ByteArray) (two : Bool) (k : Nat) (h1 : ((nameT k).toList == s.toList) = true) (h2 : (decide (0 < rankT k) == two) = true) : isIt s two k = true := by
  unfold isIt twoT
  rw [h1, h2]; rfl
theorem isIt_not1 (s : ByteArray) (two : Bool) (k : Nat) (h1 : ((nameT k).toList == s.toList) = false) : isIt s two k = false := by
  unfold isIt
  rw [h1]; rfl
theorem isIt_not2 (s : ByteArray) (two : Bool) (k : Nat) (h2 : (decide (0 < rankT k) == two) = false) : isIt s two k = false := by
  unfold isIt twoT
  rw [h2, Bool.and_false]
theorem wantK_yes (s : ByteArray) (two : Bool) (k : Nat) (h : 0 < k) (h2 : isIt s two k = true) : wantK s two (k + 1) = k := if_pos ⟨h, h2⟩
theorem wantK_no (s : ByteArray) (two : Bool) (k : Nat) (h : ¬ (0 < k ∧ isIt s two k = true)) : wantK s two (k + 1) = wantK s two k := if_neg h
theorem two_rank (op : Int) (h0 : 0 ≤ op) (h1 : op ≤ 255) (w : World) : Calls Try.prog 25 #[.int .u8 op] w fun e w' => e = .returned (.bool (decide (0 < rankT op.toNat))) ∧ Below w.heap.size w w' := two_any op h0 h1 w
theorem find_int (s : ByteArray) (two : Bool) (w : World) :
    Calls Try.prog 28 #[.string s, .bool two] w fun e w' => e = .returned (.tuple #[.int .u8 ((findT s two : Nat) : Int), .bool (decide ((0 : Int) < ((findT s two : Nat) : Int)))]) ∧ Below w.heap.size w w' := by
  have := find_any s two w
  have e : decide (0 < findT s two) = decide ((0 : Int) < ((findT s two : Nat) : Int)) := decide_eq_decide.2 (by omega)
  rw [e] at this
  exact this
theorem findT_le (s : ByteArray) (two : Bool) : findT s two ≤ 16 := by
  rcases findFrom_spec s two 16 1 (by omega) with ⟨g1, _⟩ | ⟨_, g2, _⟩
  · show findFrom s two 16 1 ≤ 16; omega
  · show findFrom s two 16 1 ≤ 16; omega
set_option maxRecDepth 100000 in
theorem names_gen (op : Int) (s : ByteArray) (two : Bool) (v : Option Addr) (len cap : Nat) (h0 : 0 ≤ op) (h1 : op ≤ 255) (hl : len ≤ 9223372036854775807) (w : World)
    (K : (len < 1 ∨ 16 < len) ∨ (1 ≤ len ∧ len ≤ 16 ∧ ∃ (b off : Nat) (f : Nat → Bool), v = some ⟨b, off, none⟩ ∧ b < w.heap.size ∧ ∀ j, j < len → w.cell? ⟨b, off + j, none⟩ = some (.bool (f j)))) :
    Calls Try.prog 17 #[.int .u8 op, .string s, .bool two, .slice v len cap] w fun e w' => e = .returned (.bool true) ∧ Below w.heap.size w w' := by
  obtain ⟨o, rfl⟩ := Int.eq_ofNat_of_zero_le h0
  have HK := Lib.hid K
  clear K
  go_enter Try.func17, Try.ntmps17
  go_wp2_with (first | (go_at_call 21; refine (rnames_ok _).mono ?_; rintro e w' ⟨rfl, rfl⟩))
  generalize hW2 : w.alloc _ = W2
  have hcell : ∀ k, k ≤ 16 → W2.cell? ⟨w.heap.size, k, none⟩ = some (.string (nameT k)) := fun k hk => by
    rw [← hW2, World.cell?_alloc_at _ _ _ _ rfl]; exact namesL_at k hk
  have hB : Below w.heap.size w W2 := by rw [← hW2]; exact (Below.refl _ _).alloc (Nat.le_refl _) _
  have hsz : w.heap.size < W2.heap.size := by rw [← hW2]; simp
  clear hW2
  have HC := Lib.hid hcell
  clear hcell
  go_loopw [9, 10, 19] (fun nm wt i wr => ∃ k : Nat, k ≤ 17 ∧ i = .int .i64 k ∧ nm = .string (nameK o k) ∧ wt = .int .i64 (wantK s two k) ∧ Below W2.heap.size W2 wr) (fun _ _ i _ => 17 - (intOf i).toNat)
  case atStart => exact ⟨0, by omega, rfl, rfl, rfl, Below.refl _ _⟩
  case round =>
    obtain ⟨k, hk, rfl, rfl, rfl, hb⟩ := hrel
    by_cases hlt : k < 17
    · have hck : wr.cell? ⟨w.heap.size, k, none⟩ = some (.string (nameT k)) := (hb.cell (p := ⟨w.heap.size, k, none⟩) hsz).trans (HC.out k (by omega))
      by_cases hz : k = 0
      · subst hz
        have hs := Lib.hid (nameK_step o 0 (by omega))
        have hw := Lib.hid (wantK_no s two 0 (by omega))
        simp only [show ((0 : Nat) : Int) = 0 from rfl]
        go_wp2_with fail
        go_roundw
        case rel => exact ⟨1, by omega, rfl, by rw [hs.out], by rw [hw.out], hb⟩
        case measure => simp [intOf]
      · have hz' : 0 < k := by omega
        clear hz
        by_cases hko : k = o
        · subst hko
          have hs : Hid (nameK k (k + 1) = nameT k) := by show nameK k (k + 1) = _; unfold nameK; rw [if_pos (by omega)]
          cases hn : ((nameT k).toList == s.toList)
          · have hw := Lib.hid (wantK_no s two k (by rw [isIt_not1 s two k hn]; simp))
            go_wp2_with fail
            go_roundw
            case rel => exact ⟨k + 1, by omega, by go_num, by rw [hs.out], by rw [hw.out], hb⟩
            case measure => simp [intOf]; omega
          · cases ht : (decide (0 < rankT k) == two)
            · have hw := Lib.hid (wantK_no s two k (by rw [isIt_not2 s two k ht]; simp))
              go_wp2_with (go_at_call 30; refine (rrank_any _ (by omega) (by omega) _).mono ?_; simp only [Int.toNat_natCast]; rintro e w3 ⟨rfl, hb3⟩)
              go_roundw
              case rel => exact ⟨k + 1, by omega, by go_num, by rw [hs.out], by rw [hw.out], hb.trans (hb3.mono hb.size)⟩
              case measure => simp [intOf]; omega
            · have hw := Lib.hid (wantK_yes s two k hz' (isIt_of s two k hn ht))
              go_wp2_with (go_at_call 30; refine (rrank_any _ (by omega) (by omega) _).mono ?_; simp only [Int.toNat_natCast]; rintro e w3 ⟨rfl, hb3⟩)
              go_roundw
              case rel => exact ⟨k + 1, by omega, by go_num, by rw [hs.out], by rw [hw.out], hb.trans (hb3.mono hb.size)⟩
              case measure => simp [intOf]; omega
        · have hs := Lib.hid (nameK_step o k (by omega))
          have hko' : ((k : Int) == (o : Int)) = false := beq_eq_false_iff_ne.2 (by omega)
          clear hko
          cases hn : ((nameT k).toList == s.toList)
          · have hw := Lib.hid (wantK_no s two k (by rw [isIt_not1 s two k hn]; simp))
            go_wp2_with fail
            go_roundw
            case rel => exact ⟨k + 1, by omega, by go_num, by rw [hs.out], by rw [hw.out], hb⟩
            case measure => simp [intOf]; omega
          · cases ht : (decide (0 < rankT k) == two)
            · have hw := Lib.hid (wantK_no s two k (by rw [isIt_not2 s two k ht]; simp))
              go_wp2_with (go_at_call 30; refine (rrank_any _ (by omega) (by omega) _).mono ?_; simp only [Int.toNat_natCast]; rintro e w3 ⟨rfl, hb3⟩)
              go_roundw
              case rel => exact ⟨k + 1, by omega, by go_num, by rw [hs.out], by rw [hw.out], hb.trans (hb3.mono hb.size)⟩
              case measure => simp [intOf]; omega
            · have hw := Lib.hid (wantK_yes s two k hz' (isIt_of s two k hn ht))
              go_wp2_with (go_at_call 30; refine (rrank_any _ (by omega) (by omega) _).mono ?_; simp only [Int.toNat_natCast]; rintro e w3 ⟨rfl, hb3⟩)
              go_roundw
              case rel => exact ⟨k + 1, by omega, by go_num, by rw [hs.out], by rw [hw.out], hb.trans (hb3.mono hb.size)⟩
              case measure => simp [intOf]; omega
    · obtain rfl : k = 17 := by omega
      clear hlt hk
      rw [nameK_all, want_find]
      have hfl := findT_le s two
      replace hB := hB.trans (hb.mono hB.size)
      clear hb HC
      rcases HK.out with hbad | ⟨g1, g2, b, off, f, rfl, hbw, hcs⟩
      · have H : Hid ((len : Int) < 1 ∨ 16 < (len : Int)) := by show _ ∨ _; omega
        have H2 := Lib.hid hbad
        clear HK hbad
        go_wp2_with (first | (go_at_call 28; refine (find_int _ _ _).mono ?_; rintro e w3 ⟨rfl, hb3⟩; replace hB := hB.trans (hb3.mono hB.size); clear hb3) | (go_at_call 23; refine (name_any _ h0 h1 _).mono ?_; simp only [Int.toNat_natCast]; rintro e w3 ⟨rfl, hb3⟩; replace hB := hB.trans (hb3.mono hB.size); clear hb3) | (go_at_call 24; refine (rank_any _ h0 h1 _).mono ?_; simp only [Int.toNat_natCast]; rintro e w3 ⟨rfl, hb3⟩; replace hB := hB.trans (hb3.mono hB.size); clear hb3) | (go_at_call 30; refine (rrank_any _ h0 h1 _).mono ?_; simp only [Int.toNat_natCast]; rintro e w3 ⟨rfl, hb3⟩; replace hB := hB.trans (hb3.mono hB.size); clear hb3) | (go_at_call 25; refine (two_rank _ h0 h1 _).mono ?_; simp only [Int.toNat_natCast]; rintro e w3 ⟨rfl, hb3⟩; replace hB := hB.trans (hb3.mono hB.size); clear hb3) | (go_at_call 27; refine (fromBits_bad _ _ _ H2.out hl _).mono ?_; rintro e w' ⟨rfl, rfl⟩) | (go_at_call 31; refine (rwidth_no _ H.out (by omega) (by omega) _).mono ?_; rintro e w' ⟨rfl, rfl⟩))
        go_ret
        exact ⟨rfl, hB⟩
      · have HS := Lib.hid hcs
        have hnb : numB f len ≤ 65536 := by have h3 := numB_lt f len; have h4 := pow_le_16 len g2; omega
        clear HK hcs
        go_wp2_with (first | (go_at_call 28; refine (find_int _ _ _).mono ?_; rintro e w3 ⟨rfl, hb3⟩; replace hB := hB.trans (hb3.mono hB.size); clear hb3) | (go_at_call 23; refine (name_any _ h0 h1 _).mono ?_; simp only [Int.toNat_natCast]; rintro e w3 ⟨rfl, hb3⟩; replace hB := hB.trans (hb3.mono hB.size); clear hb3) | (go_at_call 24; refine (rank_any _ h0 h1 _).mono ?_; simp only [Int.toNat_natCast]; rintro e w3 ⟨rfl, hb3⟩; replace hB := hB.trans (hb3.mono hB.size); clear hb3) | (go_at_call 30; refine (rrank_any _ h0 h1 _).mono ?_; simp only [Int.toNat_natCast]; rintro e w3 ⟨rfl, hb3⟩; replace hB := hB.trans (hb3.mono hB.size); clear hb3) | (go_at_call 25; refine (two_rank _ h0 h1 _).mono ?_; simp only [Int.toNat_natCast]; rintro e w3 ⟨rfl, hb3⟩; replace hB := hB.trans (hb3.mono hB.size); clear hb3) | (go_at_call 27; refine (fromBits_ok b off len cap f g1 g2 _ (fun j hj => (hB.cell (p := ⟨b, off + j, none⟩) hbw).trans (HS.out j hj))).mono ?_; rintro e w' ⟨rfl, rfl⟩) | (go_at_call 31; refine (rwidth_yes _ (by omega) (by omega) _).mono ?_; rintro e w' ⟨rfl, rfl⟩) | (go_at_call 32; refine (join_ok b off len cap f g2 _ (fun j hj => (hB.cell (p := ⟨b, off + j, none⟩) hbw).trans (HS.out j hj))).mono ?_; rintro e w' ⟨rfl, rfl⟩))
        go_ret
        exact ⟨rfl, hB⟩
end Go.Proofs.Ytfgmcinegogdkaa
