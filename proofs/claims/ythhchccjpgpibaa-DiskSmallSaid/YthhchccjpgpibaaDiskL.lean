/- Disks: what is done, act by act; what was written last. -/
import Derived.Test.YthhchccjpgpibaaDiskK
import Derived.Lib.VarintBits
namespace Go.Proofs.Ythhchccjpgpibaa
open Go Go.RowKit Go.Shelf
set_option linter.unusedVariables false
set_option linter.unusedSimpArgs false
set_option maxHeartbeats 4000000
theorem i64_and3 (b : Int) : bits .and .i64 b 3 = b % 4 := by
  show IntKind.i64.wrap ((BitVec.ofInt 64 b &&& BitVec.ofInt 64 3).toNat : Int) = _
  have h3 : (BitVec.ofInt 64 3).toNat = 2 ^ 2 - 1 := by decide
  rw [BitVec.toNat_and, h3, Nat.and_two_pow_sub_one_eq_mod, BitVec.toNat_ofInt]
  have hw : ∀ x : Int, 0 ≤ x → x < 4 → IntKind.i64.wrap x = x := by
    intro x h0 h1
    have : x = 0 ∨ x = 1 ∨ x = 2 ∨ x = 3 := by omega
    rcases this with rfl | rfl | rfl | rfl <;> decide
  rw [hw _ (by omega) (by omega)]
  omega
theorem u8_and15 (x : Int) (h0 : 0 ≤ x) (h1 : x ≤ 255) : bits .and .u8 x 15 = x % 16 := bits_mask .u8 8 (by decide) wraps_u8 4 (by decide) x h0 (by omega)
theorem u32_and15 (x : Int) (h0 : 0 ≤ x) (h1 : x ≤ 4294967295) : bits .and .u32 x 15 = cutW x 4 := and_most x 4 (by omega) (by omega) h0 h1
theorem cut4 (x : Int) : cutW x 4 = x % 16 := rfl
/-- An act: its kind, its block, its word. -/
abbrev ActV := Int × Int × Int
def encA (a : ActV) : List Value := [.int .u8 a.1, .int .i64 a.2.1, .int .u32 a.2.2]
def encAs (l : List ActV) : List Value := l.flatMap encA
def ActV.Ok (a : ActV) : Prop := 0 ≤ a.1 ∧ a.1 ≤ 255 ∧ -9223372036854775808 ≤ a.2.1 ∧ a.2.1 ≤ 9223372036854775807 ∧ 0 ≤ a.2.2 ∧ a.2.2 ≤ 4294967295
theorem encAs_len (l : List ActV) : (encAs l).length = l.length * 3 := by
  induction l with
  | nil => rfl
  | cons x es ih => simp only [encAs, List.flatMap_cons, List.length_append, List.length_cons] at ih ⊢; rw [ih]; simp [encA]; omega
theorem encAs_at (es : List ActV) : ∀ (k j : Nat) (x : ActV), es[k]? = some x → j < 3 → (encAs es)[k * 3 + j]? = (encA x)[j]? := by
  induction es with
  | nil => intro k j x h; cases h
  | cons y es ih =>
    intro k j x h hj
    cases k with
    | zero =>
      simp at h
      subst h
      rw [show encAs (y :: es) = encA y ++ encAs es from by simp [encAs], List.getElem?_append_left (by simp [encA]; omega)]
      simp
    | succ k =>
      rw [show encAs (y :: es) = encA y ++ encAs es from by simp [encAs], List.getElem?_append_right (by simp [encA]; omega)]
      have := ih k j x (by simpa using h) hj
      rw [← this]
      congr 1
      simp [encA]; omega
theorem encAs_take (l : List ActV) : ∀ k, (encAs l).take (k * 3) = encAs (l.take k) := by
  induction l with
  | nil => intro k; simp [encAs]
  | cons y l ih =>
    intro k
    cases k with
    | zero => simp [encAs]
    | succ k =>
      rw [List.take_succ_cons, show encAs (y :: l) = encA y ++ encAs l from by simp [encAs], show encAs (y :: l.take k) = encA y ++ encAs (l.take k) from by simp [encAs], ← ih k, Nat.succ_mul, Nat.add_comm, List.take_append, List.take_of_length_le (by simp [encA])]
      congr 2
      simp [encA]
theorem encAs_one (es : List ActV) : ∀ u ∈ encAs es, u.oneCell' = true := by
  intro u hu
  obtain ⟨x, _, hx⟩ := List.mem_flatMap.1 hu
  simp [encA] at hx
  rcases hx with rfl | rfl | rfl <;> rfl
theorem reads_act {w : World} {B n k : Nat} {A : Option Addr} {l : List ActV} (h : Reads w B 3 A n (encAs l)) (hk : k < n) :
    ∃ ad x, A = some ad ∧ ad.block < B ∧ l[k]? = some x ∧ w.cell? (ad.add (k * 3)) = some (.int .u8 x.1) ∧ w.cell? ⟨(ad.add (k * 3)).block, (ad.add (k * 3)).off + 1, none⟩ = some (.int .i64 x.2.1) ∧ w.cell? ⟨(ad.add (k * 3)).block, (ad.add (k * 3)).off + 2, none⟩ = some (.int .u32 x.2.2) := by
  have hl : l.length = n := by have := h.1; rw [encAs_len] at this; omega
  obtain ⟨ad, e, hb, hc⟩ := h.2 (by omega)
  have hx : l[k]? = some (l[k]'(by omega)) := List.getElem?_eq_getElem (by omega)
  generalize l[k]'(by omega) = x at hx
  have h1 : ∀ j, j ≠ 0 → (⟨(ad.add (k * 3)).block, (ad.add (k * 3)).off + j, none⟩ : Addr) = ad.add (k * 3 + j) := by
    intro j hj
    rw [← add_of_add]
    unfold Addr.add
    rw [if_neg hj]
  refine ⟨ad, x, e, hb, hx, ?_, ?_, ?_⟩
  · exact hc (k * 3 + 0) _ (by have := encAs_at l k 0 x hx (by omega); simpa [encA] using this)
  · rw [h1 1 (by omega)]; exact hc (k * 3 + 1) _ (by have := encAs_at l k 1 x hx (by omega); simpa [encA] using this)
  · rw [h1 2 (by omega)]; exact hc (k * 3 + 2) _ (by have := encAs_at l k 2 x hx (by omega); simpa [encA] using this)
theorem Reads.take {w : World} {B size n : Nat} {A : Option Addr} {xs : List Value} (h : Reads w B size A n xs) (k : Nat) (hk : k ≤ n) : Reads w B size A k (xs.take (k * size)) := by
  refine ⟨by rw [List.length_take, h.1]; exact Nat.min_eq_left (Nat.mul_le_mul_right _ hk), fun hn => ?_⟩
  obtain ⟨ad, e, hb, hc⟩ := h.2 (by omega)
  refine ⟨ad, e, hb, fun j u hu => hc j u ?_⟩
  rw [List.getElem?_take] at hu
  by_cases hj : j < k * size
  · rwa [if_pos hj] at hu
  · rw [if_neg hj] at hu; cases hu
/-- One act at a disk. -/
def stepD (D : Dst) (a : ActV) : Dst :=
  if a.1 % 8 = 4 then bar D else if a.1 % 8 = 5 then flu D else if a.1 % 8 = 6 ∨ a.1 % 8 = 7 then D else wrt D (a.2.1 % 4) a.2.2
def runD (D : Dst) (l : List ActV) : Dst := l.foldl stepD D
theorem runD_snoc (D : Dst) (l : List ActV) (a : ActV) : runD D (l ++ [a]) = stepD (runD D l) a := by simp [runD]
theorem runD_app (D : Dst) (k l : List ActV) : runD D (k ++ l) = runD (runD D k) l := by simp [runD]
/-- What was written last. -/
def lastS (l : List Int) (a : ActV) : List Int := if a.1 % 8 < 4 ∧ a.2.1 % 4 < 3 then l.set (a.2.1 % 4).toNat (cutW a.2.2 4) else l
def lastW (l : List Int) (k : List ActV) : List Int := k.foldl lastS l
theorem lastW_snoc (l : List Int) (k : List ActV) (a : ActV) : lastW l (k ++ [a]) = lastS (lastW l k) a := by simp [lastW]
theorem lastS_len (l : List Int) (a : ActV) : (lastS l a).length = l.length := by unfold lastS; split <;> simp
theorem lastW_len (k : List ActV) : ∀ l : List Int, (lastW l k).length = l.length := by
  induction k with
  | nil => intro l; rfl
  | cons a k ih => intro l; show (lastW (lastS l a) k).length = _; rw [ih, lastS_len]
/-- What a run keeps: the width, the number of blocks, how full the cache is. -/
structure Few (D : Dst) (n : Nat) : Prop where
  wd : D.wd = 4
  ws : D.ws.length = 3
  es : D.es.length ≤ n
  p0 : 0 ≤ D.ep
  ep : D.ep ≤ n
theorem Few.step {D : Dst} {n : Nat} (h : Few D n) (hn : n < 4096) (a : ActV) : Few (stepD D a) (n + 1) := by
  have h3 := h.es
  have h4 := h.p0
  have h5 := h.ep
  unfold stepD
  split
  · unfold bar
    rw [if_neg (by omega)]
    exact ⟨h.wd, h.ws, by show D.es.length ≤ n + 1; omega, by show 0 ≤ D.ep + 1; omega, by show D.ep + 1 ≤ (n + 1 : Nat); omega⟩
  split
  · exact ⟨h.wd, by show (flushW _ _).length = 3; rw [flushW_len]; exact h.ws, by simp [flu], by simp [flu], by simp [flu]; omega⟩
  split
  · exact ⟨h.wd, h.ws, by omega, h4, by omega⟩
  · unfold wrt
    split
    · exact ⟨h.wd, h.ws, by simp; omega, h4, by show D.ep ≤ (n + 1 : Nat); omega⟩
    · exact ⟨h.wd, h.ws, by omega, h4, by omega⟩
/-- What is read is what was written last. -/
theorem seen_step {D : Dst} {n : Nat} (h : Few D n) (hn : n < 4096) (a : ActV) : flushW (stepD D a).ws (stepD D a).es = lastS (flushW D.ws D.es) a := by
  have h3 := h.es
  have h5 := h.ep
  unfold stepD lastS
  split
  · rw [if_neg (by omega)]; unfold bar; split <;> rfl
  split
  · rw [if_neg (by omega)]; simp [flu, flushW]
  split
  · rw [if_neg (by omega)]
  · unfold wrt
    by_cases hb : a.2.1 % 4 < 3
    · have hw : wOk D (a.2.1 % 4) = true := by
        simp only [wOk, Bool.and_eq_true, decide_eq_true_eq]
        have := h.ws
        omega
      rw [if_pos hw, if_pos ⟨by omega, hb⟩, flushW_snoc, h.wd]
    · have hw : ¬ wOk D (a.2.1 % 4) = true := by
        simp only [wOk, Bool.and_eq_true, decide_eq_true_eq]
        have := h.ws
        omega
      rw [if_neg hw, if_neg (by omega)]
theorem few_zero (l : List Int) (hl : l.length = 3) : Few (mkD 4 3 l) 0 := ⟨rfl, by simp [mkD, hl], by simp [mkD], by simp [mkD], by simp [mkD]⟩
theorem Few.run {D : Dst} {n : Nat} (h : Few D n) (l : List ActV) (hl : n + l.length ≤ 4096) : Few (runD D l) (n + l.length) := by
  induction l generalizing D n with
  | nil => exact h
  | cons a l ih =>
    rw [List.length_cons] at hl ⊢
    have := ih (h.step (by omega) a) (by omega)
    rw [show n + (l.length + 1) = n + 1 + l.length from by omega]
    exact this
theorem seen_run {D : Dst} {n : Nat} (h : Few D n) (l : List ActV) (hl : n + l.length ≤ 4096) : flushW (runD D l).ws (runD D l).es = lastW (flushW D.ws D.es) l := by
  induction l generalizing D n with
  | nil => rfl
  | cons a l ih =>
    rw [List.length_cons] at hl
    have := ih (h.step (by omega) a) (by omega)
    rw [seen_step h (by omega) a] at this
    exact this
end Go.Proofs.Ythhchccjpgpibaa
