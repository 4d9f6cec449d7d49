/- Disks: the examples. -/
import Derived.Test.YthhchccjpgpibaaDiskJ
namespace Go.Proofs.Ythhchccjpgpibaa
open Go Go.RowKit Go.Shelf
set_option linter.unusedVariables false
set_option linter.unusedSimpArgs false
set_option maxHeartbeats 4000000
/-- A row's block is none of a disk's. -/
def Apart (v : Value) (fp : List Nat) : Prop := ∀ k, v.ownBlock = some k → k ∉ fp
section
variable {W W' : World} {base b2 e size n : Nat} {v : Value} {xs : List Value} {fp fp' : List Nat} {d : Nat} {D : Dst}
theorem apart_new (h : W'.ownsRow W.heap.size e size v n xs) (hD : Disk W base d fp D) : Apart v fp := fun k hk hm => by
  have := (h.lt k hk).1
  have := (hD.ge k hm).2
  omega
theorem row_step (h : W.ownsRow base e size v n xs) (ha : Apart v fp) (ho : Only fp W W') (hf : ∀ k, k ∈ fp' → k ∈ fp ∨ W.heap.size ≤ k) : W'.ownsRow base e size v n xs ∧ Apart v fp' :=
  ⟨own_only h ho ha, fun k hk hm => by
    rcases hf k hm with h1 | h1
    · exact ha k hk h1
    · have := (h.lt k hk).2; omega⟩
theorem row_new (h : W.ownsRow base e size v n xs) (hb : Below W.heap.size W W') : W'.ownsRow base e size v n xs := own_only h (only_of_below [] hb) (by simp)
theorem Disk.below {w : World} (h : Disk W base d fp D) (ho : Only fp W W') (hb : Below w.heap.size w W) (hB : w.heap.size ≤ base) : Below w.heap.size w W' :=
  hb.trans (ho.below hb.size (fun k hk => by have := (h.ge k hk).1; omega))
theorem row_step' (h : W.ownsRow base e size v n xs ∧ Apart v fp) (ho : Only fp W W') (hf : ∀ k, k ∈ fp' → k ∈ fp ∨ W.heap.size ≤ k) : W'.ownsRow base e size v n xs ∧ Apart v fp' := row_step h.1 h.2 ho hf
theorem row_new' (h : W.ownsRow base e size v n xs ∧ Apart v fp) (hb : Below W.heap.size W W') : W'.ownsRow base e size v n xs ∧ Apart v fp := ⟨row_new h.1 hb, h.2⟩
theorem after_alloc {o : Obj} (h : Below (W.alloc o).heap.size (W.alloc o) W') : Below W.heap.size W W' := ((Below.refl _ W).alloc (Nat.le_refl _) o).trans (h.mono (by simp))
theorem below_and {w : World} (h : Below w.heap.size w W) (k : Below W.heap.size W W') : Below w.heap.size w W' := h.trans (k.mono h.size)
theorem lit_own (w : World) (e : TypeId) (xs : List Value) (size n : Nat) (hn : n ≤ 65536) (hx : xs.length = n * size) : (w.alloc (.cells xs.toArray e)).ownsRow w.heap.size e size (.slice (some ⟨w.heap.size, 0, none⟩) n n) n xs := by
  have := World.ownsRow_lit (base := w.heap.size) (e := e) (size := size) w xs.toArray n (Nat.le_refl _) (by simp only [maxLen]; omega) (by simpa using hx)
  simpa using this
theorem words_eq {A A' : Option Addr} {n c c' : Nat} (l : List Int) {b b' : Nat} {w : World} (h : w.ownsRow b 36 1 (.slice A n c) n (l.map (Value.int .u32))) (h' : w.ownsRow b' 36 1 (.slice A' n c') n (l.map (Value.int .u32))) (hn : n ≤ 1099511627776) :
    Calls Try.prog 15 #[.slice A n c, .slice A' n c'] w fun e w' => e = .returned (.bool true) ∧ Below w.heap.size w w' := by
  refine (equal_words A A' n c c' l _ _ w (Reads.of_own h) (Reads.of_own h') hn).mono ?_
  rintro e w' ⟨rfl, q, rfl⟩
  exact ⟨rfl, below_drewN (Below.refl _ _) q⟩
theorem ents_eq {A A' : Option Addr} {n c c' : Nat} (es : List Ent) {b b' : Nat} {w : World} (h : w.ownsRow b 38 3 (.slice A n c) n (encs es)) (h' : w.ownsRow b' 38 3 (.slice A' n c') n (encs es)) (hn : n ≤ 1099511627776) :
    Calls Try.prog 23 #[.slice A n c, .slice A' n c'] w fun e w' => e = .returned (.bool true) ∧ Below w.heap.size w w' := by
  refine (equal_ents A A' n c c' es _ _ w h h' hn).mono ?_
  rintro e w' ⟨rfl, q, rfl⟩
  exact ⟨rfl, below_drewN (Below.refl _ _) q⟩
end
def aD0 : Dst := { wd := 4, ws := [3, 0], es := [], ep := 0 }
def aD1 : Dst := { wd := 4, ws := [3, 0], es := [(0, 5, 0)], ep := 0 }
def aD2 : Dst := { wd := 4, ws := [3, 0], es := [(0, 5, 0)], ep := 1 }
def aD3 : Dst := { wd := 4, ws := [3, 0], es := [(0, 5, 0), (1, 1, 1)], ep := 1 }
def aD4 : Dst := { wd := 4, ws := [5, 1], es := [], ep := 0 }
section
variable {w : World} {base d : Nat} {D : Dst} {fp : List Nat}
theorem aw_new (c B : Nat) (A : Option Addr) (hrd : Reads w B 1 A 1 ([3].map (Value.int .u32))) (hB : B ≤ w.heap.size) :
    Calls Try.prog 16 #[.int .i64 2, .int .i64 4, .slice A 1 c] w fun e w' => ∃ d fp, e = .returned (.tuple #[.pointer (some ⟨d, 0, none⟩), .int .i64 0]) ∧ Disk w' w.heap.size d fp aD0 ∧ Below w.heap.size w w' :=
  new_disk 2 4 A 1 c B [3] hrd hB (by omega) (by omega) (by omega) (by omega) (by omega) (by simp)
theorem aw_w1 (h : Disk w base d fp aD0) : Calls Try.prog 17 #[.pointer (some ⟨d, 0, none⟩), .int .i64 0, .int .u32 5] w fun e w' => e = .returned (.tuple #[.bool true, .int .i64 0]) ∧ ∃ fp', Disk w' base d fp' aD1 ∧ (∀ k, k ∈ fp' → k ∈ fp ∨ w.heap.size ≤ k) ∧ Only fp w w' := write_disk h 0 5 (by omega) (by omega)
theorem aw_w2 (h : Disk w base d fp aD2) : Calls Try.prog 17 #[.pointer (some ⟨d, 0, none⟩), .int .i64 1, .int .u32 17] w fun e w' => e = .returned (.tuple #[.bool true, .int .i64 0]) ∧ ∃ fp', Disk w' base d fp' aD3 ∧ (∀ k, k ∈ fp' → k ∈ fp ∨ w.heap.size ≤ k) ∧ Only fp w w' := write_disk h 1 17 (by omega) (by omega)
theorem aw_w3 (h : Disk w base d fp aD3) : Calls Try.prog 17 #[.pointer (some ⟨d, 0, none⟩), .int .i64 2, .int .u32 1] w fun e w' => e = .returned (.tuple #[.bool false, .int .i64 0]) ∧ ∃ fp', Disk w' base d fp' aD3 ∧ (∀ k, k ∈ fp' → k ∈ fp ∨ w.heap.size ≤ k) ∧ Only fp w w' := write_disk h 2 1 (by omega) (by omega)
theorem aw_b (h : Disk w base d fp aD1) : Calls Try.prog 26 #[.pointer (some ⟨d, 0, none⟩)] w fun e w' => e = .returned (.int .i64 0) ∧ Disk w' base d fp aD2 ∧ Only fp w w' := barrier_disk h
theorem aw_f (h : Disk w base d fp aD3) : Calls Try.prog 20 #[.pointer (some ⟨d, 0, none⟩)] w fun e w' => e = .returned (.int .i64 0) ∧ ∃ fp', Disk w' base d fp' aD4 ∧ (∀ k, k ∈ fp' → k ∈ fp ∨ w.heap.size ≤ k) ∧ Only fp w w' := flush_disk h
theorem aw_r0 (h : Disk w base d fp aD0) : Calls Try.prog 18 #[.pointer (some ⟨d, 0, none⟩), .int .i64 0] w fun e w' => e = .returned (.int .u32 3) ∧ Below w.heap.size w w' := read_disk h 0 (by omega)
theorem aw_r1 (h : Disk w base d fp aD1) : Calls Try.prog 18 #[.pointer (some ⟨d, 0, none⟩), .int .i64 0] w fun e w' => e = .returned (.int .u32 5) ∧ Below w.heap.size w w' := read_disk h 0 (by omega)
theorem aw_k1 (h : Disk w base d fp aD1) : Calls Try.prog 12 #[.pointer (some ⟨d, 0, none⟩)] w fun e w' => ∃ A cap, e = .returned (.slice A 2 cap) ∧ w'.ownsRow w.heap.size 36 1 (.slice A 2 cap) 2 ([3, 0].map (Value.int .u32)) ∧ Below w.heap.size w w' := kept_disk h
theorem aw_k4 (h : Disk w base d fp aD4) : Calls Try.prog 12 #[.pointer (some ⟨d, 0, none⟩)] w fun e w' => ∃ A cap, e = .returned (.slice A 2 cap) ∧ w'.ownsRow w.heap.size 36 1 (.slice A 2 cap) 2 ([5, 1].map (Value.int .u32)) ∧ Below w.heap.size w w' := kept_disk h
theorem aw_c3 (h : Disk w base d fp aD3) : Calls Try.prog 13 #[.pointer (some ⟨d, 0, none⟩)] w fun e w' => ∃ A cap, e = .returned (.slice A 2 cap) ∧ w'.ownsRow w.heap.size 38 3 (.slice A 2 cap) 2 (encs [(0, 5, 0), (1, 1, 1)]) ∧ Below w.heap.size w w' := cache_disk h
theorem aw_c4 (h : Disk w base d fp aD4) : Calls Try.prog 13 #[.pointer (some ⟨d, 0, none⟩)] w fun e w' => ∃ A cap, e = .returned (.slice A 0 cap) ∧ w'.ownsRow w.heap.size 38 3 (.slice A 0 cap) 0 (encs []) ∧ Below w.heap.size w w' := cache_disk h
theorem aw_e4 (h : Disk w base d fp aD4) : Calls Try.prog 14 #[.pointer (some ⟨d, 0, none⟩)] w fun e w' => e = .returned (.int .i64 0) ∧ w = w' := epoch_disk h
end
set_option maxRecDepth 100000 in
theorem awake_ok (w : World) : Calls Try.prog 10 #[] w fun e w' => e = .returned (.bool true) ∧ Below w.heap.size w w' := by
  have hR0 : Reads (w.alloc (.cells #[.int .u32 3] 36)) (w.heap.size + 1) 1 (some ⟨w.heap.size, 0, none⟩) 1 ([3].map (Value.int .u32)) :=
    ⟨by simp, fun _ => ⟨_, rfl, by simp, fun j u hu => by
      have hb := (Blk.new w 36 #[.int .u32 3]).cell j
      rw [Addr.add_lit, Nat.zero_add, hb]
      simpa using hu⟩⟩
  go_enter Try.func10, Try.ntmps10
  go_wp2_with (first
    | (go_at_call 16; refine (aw_new _ _ _ hR0 (by simp)).mono ?_; rintro e w1 ⟨d, fp, rfl, hD0, hB⟩; clear hR0; replace hB := after_alloc hB; replace hD0 := hD0.base_le (base' := w.heap.size) (by simp))
    | (go_at_call 18; refine (aw_r0 hD0).mono ?_; rintro e w2 ⟨rfl, hB2⟩; replace hB := below_and hB hB2; replace hD0 := hD0.new hB2; clear hB2)
    | (go_at_call 18; refine (aw_r1 hD1).mono ?_; rintro e w2 ⟨rfl, hB2⟩; replace hB := below_and hB hB2; replace hD1 := hD1.new hB2; replace hK := row_new' hK hB2; clear hB2)
    | (go_at_call 17; refine (aw_w1 hD0).mono ?_; rintro e w2 ⟨rfl, fp2, hD1, hf2, hO2⟩; replace hB := hD0.below hO2 hB (Nat.le_refl _); clear hO2 hf2 hD0)
    | (go_at_call 17; refine (aw_w2 hD2).mono ?_; rintro e w2 ⟨rfl, fp2, hD3, hf2, hO2⟩; replace hB := hD2.below hO2 hB (Nat.le_refl _); replace hK := row_step' hK hO2 hf2; clear hO2 hf2 hD2)
    | (go_at_call 17; refine (aw_w3 hD3).mono ?_; rintro e w2 ⟨rfl, fp2, hD4, hf2, hO2⟩; replace hB := hD3.below hO2 hB (Nat.le_refl _); replace hK := row_step' hK hO2 hf2; replace hL := row_step' hL hO2 hf2; clear hO2 hf2 hD3)
    | (go_at_call 26; refine (aw_b hD1).mono ?_; rintro e w2 ⟨rfl, hD2, hO2⟩; replace hB := hD1.below hO2 hB (Nat.le_refl _); replace hK := row_step' hK hO2 (fun k hk => .inl hk); clear hO2 hD1)
    | (go_at_call 20; refine (aw_f hD4).mono ?_; rintro e w2 ⟨rfl, fp2, hD5, hf2, hO2⟩; replace hB := hD4.below hO2 hB (Nat.le_refl _); replace hK := row_step' hK hO2 hf2; replace hL := row_step' hL hO2 hf2; clear hO2 hf2 hD4)
    | (go_at_call 12; refine (aw_k1 hD1).mono ?_; rintro e w2 ⟨A, cap, rfl, hk, hB2⟩; have hK := And.intro hk (apart_new hk hD1); replace hB := below_and hB hB2; replace hD1 := hD1.new hB2; clear hB2 hk)
    | (go_at_call 12; refine (aw_k4 hD5).mono ?_; rintro e w2 ⟨A4, cap4, rfl, hk, hB2⟩; have hM := And.intro hk (apart_new hk hD5); replace hB := below_and hB hB2; replace hD5 := hD5.new hB2; clear hB2 hk)
    | (go_at_call 13; refine (aw_c3 hD3).mono ?_; rintro e w2 ⟨A3, cap3, rfl, hk, hB2⟩; have hL := And.intro hk (apart_new hk hD3); replace hB := below_and hB hB2; replace hD3 := hD3.new hB2; replace hK := row_new' hK hB2; clear hB2 hk)
    | (go_at_call 13; refine (aw_c4 hD5).mono ?_; rintro e w2 ⟨A5, cap5, rfl, hk, hB2⟩; replace hB := below_and hB hB2; replace hD5 := hD5.new hB2; clear hB2 hk)
    | (go_at_call 14; refine (aw_e4 hD5).mono ?_; rintro e w' ⟨rfl, rfl⟩)
    | (go_at_call 15; refine (words_eq [3, 0] (row_new hK.1 ((Below.refl _ _).alloc (Nat.le_refl _) _)) (lit_own _ 36 ([3, 0].map (Value.int .u32)) 1 2 (by omega) rfl) (by omega)).mono ?_; rintro e w2 ⟨rfl, hB2⟩; replace hB2 := after_alloc hB2; replace hB := below_and hB hB2; replace hD5 := hD5.new hB2; replace hL := row_new' hL hB2; clear hB2 hK)
    | (go_at_call 23; refine (ents_eq [(0, 5, 0), (1, 1, 1)] (row_new hL.1 ((Below.refl _ _).alloc (Nat.le_refl _) _)) (lit_own _ 38 (encs [(0, 5, 0), (1, 1, 1)]) 3 2 (by omega) rfl) (by omega)).mono ?_; rintro e w2 ⟨rfl, hB2⟩; replace hB2 := after_alloc hB2; replace hB := below_and hB hB2; replace hD5 := hD5.new hB2; clear hB2 hL)
    | (go_at_call 15; refine (words_eq [5, 1] (row_new hM.1 ((Below.refl _ _).alloc (Nat.le_refl _) _)) (lit_own _ 36 ([5, 1].map (Value.int .u32)) 1 2 (by omega) rfl) (by omega)).mono ?_; rintro e w2 ⟨rfl, hB2⟩; replace hB2 := after_alloc hB2; replace hB := below_and hB hB2; replace hD5 := hD5.new hB2; clear hB2 hM))
  go_ret
  exact ⟨rfl, hB⟩
end Go.Proofs.Ythhchccjpgpibaa
