/- Disks: the reference, plain: what was done, and what there is then. -/
import Derived.Test.YthhchccjpgpibaaDiskJ
namespace Go.Proofs.Ythhchccjpgpibaa
open Go Go.RowKit Go.Shelf
set_option linter.unusedVariables false
set_option linter.unusedSimpArgs false
/-- What was done: kind, block, word. -/
abbrev RAct := Int × Int × Int
def encR (a : RAct) : List Value := [.int .i64 a.1, .int .i64 a.2.1, .int .i64 a.2.2]
def encRs (l : List RAct) : List Value := l.flatMap encR
theorem encRs_snoc (l : List RAct) (x : RAct) : encRs (l ++ [x]) = encRs l ++ encR x := by simp [encRs]
theorem encRs_len (l : List RAct) : (encRs l).length = l.length * 3 := by
  induction l with
  | nil => rfl
  | cons x es ih => show (encR x ++ encRs es).length = _; rw [List.length_append, ih]; simp [encR]; omega
theorem encRs_at (es : List RAct) : ∀ (k j : Nat) (x : RAct), es[k]? = some x → j < 3 → (encRs es)[k * 3 + j]? = (encR x)[j]? := by
  induction es with
  | nil => intro k j x h; cases h
  | cons y es ih =>
    intro k j x h hj
    cases k with
    | zero =>
      simp at h
      subst h
      show (encR y ++ encRs es)[0 * 3 + j]? = _
      rw [List.getElem?_append_left (by simp [encR]; omega)]
      simp
    | succ k =>
      show (encR y ++ encRs es)[_]? = _
      rw [List.getElem?_append_right (by simp [encR]; omega)]
      have := ih k j x (by simpa using h) hj
      rw [← this]
      congr 1
      simp [encR]; omega
def stepR (D : Dst) (a : RAct) : Dst := if a.1 = 1 then { D with es := D.es ++ [(a.2.1, a.2.2, D.ep)] } else if a.1 = 2 then { D with ep := D.ep + 1 } else flu D
def runR (D : Dst) (l : List RAct) : Dst := l.foldl stepR D
theorem runR_snoc (D : Dst) (l : List RAct) (a : RAct) : runR D (l ++ [a]) = stepR (runR D l) a := by simp [runR]
theorem runR_app (D : Dst) (k l : List RAct) : runR D (k ++ l) = runR (runR D k) l := by simp [runR]
/-- The words that are read. -/
def setR (ws : List Int) (a : RAct) : List Int := if a.1 = 1 then ws.set a.2.1.toNat a.2.2 else ws
def seenF (ws : List Int) (l : List RAct) : List Int := l.foldl setR ws
theorem seenF_snoc (ws : List Int) (l : List RAct) (a : RAct) : seenF ws (l ++ [a]) = setR (seenF ws l) a := by simp [seenF]
theorem seenF_len (l : List RAct) : ∀ ws, (seenF ws l).length = ws.length := by
  induction l with
  | nil => intro ws; rfl
  | cons a l ih =>
    intro ws
    show (seenF (setR ws a) l).length = _
    rw [ih]
    unfold setR
    split <;> simp
theorem seenR_step (D : Dst) (a : RAct) : flushW (stepR D a).ws (stepR D a).es = setR (flushW D.ws D.es) a := by
  unfold stepR setR
  split
  · exact flushW_snoc _ _ _
  · split
    · rfl
    · rfl
theorem seenR_run (l : List RAct) : ∀ D, flushW (runR D l).ws (runR D l).es = seenF (flushW D.ws D.es) l := by
  induction l with
  | nil => intro D; rfl
  | cons a l ih =>
    intro D
    show flushW (runR (stepR D a) l).ws (runR (stepR D a) l).es = seenF (setR (flushW D.ws D.es) a) l
    rw [ih, seenR_step]
/-- A write to a block. -/
def RAct.hits (b : Nat) (a : RAct) : Prop := a.1 = 1 ∧ a.2.1 = (b : Int)
theorem setR_miss (ws : List Int) (a : RAct) (b : Nat) (h : ¬ a.hits b) (h0 : a.1 = 1 → 0 ≤ a.2.1) : (setR ws a)[b]? = ws[b]? := by
  unfold setR
  split
  · rename_i h1
    have := h0 h1
    rw [List.getElem?_set_ne (fun e => h ⟨h1, by omega⟩)]
  · rfl
theorem seenF_miss (ws : List Int) (l : List RAct) (b i m : Nat) (hi : i ≤ m) (h0 : ∀ a ∈ l, a.1 = 1 → 0 ≤ a.2.1) (h : ∀ j a, i ≤ j → j < m → l[j]? = some a → ¬ a.hits b) : (seenF ws (l.take m))[b]? = (seenF ws (l.take i))[b]? := by
  induction m with
  | zero => rw [show i = 0 by omega]
  | succ m ih =>
    by_cases he : i = m + 1
    · rw [he]
    · cases hx : l[m]? with
      | none =>
        have hl := List.getElem?_eq_none_iff.1 hx
        rw [← ih (by omega) (fun j a h1 h2 h3 => h j a h1 (by omega) h3), List.take_of_length_le (by omega), List.take_of_length_le hl]
      | some a =>
        rw [List.take_add_one, hx, Option.toList_some, seenF_snoc, setR_miss _ _ _ (h m a (by omega) (by omega) hx) (h0 a (List.mem_of_getElem? hx))]
        exact ih (by omega) (fun j a h1 h2 h3 => h j a h1 (by omega) h3)
theorem seenF_hit (ws : List Int) (l : List RAct) (b i m : Nat) (a : RAct) (hi : i < m) (h0 : ∀ a ∈ l, a.1 = 1 → 0 ≤ a.2.1) (hx : l[i]? = some a) (ha : a.hits b) (hb : b < ws.length) (h : ∀ j a, i < j → j < m → l[j]? = some a → ¬ a.hits b) : (seenF ws (l.take m))[b]? = some a.2.2 := by
  rw [seenF_miss ws l b (i + 1) m (by omega) h0 (fun j a h1 h2 h3 => h j a (by omega) h2 h3), List.take_add_one, hx, Option.toList_some, seenF_snoc]
  unfold setR
  rw [if_pos ha.1, show a.2.1.toNat = b by have := ha.2; omega, List.getElem?_set_self (by rw [seenF_len]; exact hb)]
/-- The place behind the last flush. -/
def IsFl (l : List RAct) (k : Nat) : Prop := k ≤ l.length ∧ (∀ j a, k ≤ j → l[j]? = some a → a.1 ≠ 3) ∧ (k = 0 ∨ ∃ a, l[k - 1]? = some a ∧ a.1 = 3)
theorem fl_at {l : List RAct} {k : Nat} (h : IsFl l k) (D : Dst) (hD : D.es = [] ∧ D.ep = 0) : (runR D (l.take k)).es = [] ∧ (runR D (l.take k)).ep = 0 ∧ (runR D (l.take k)).ws = seenF D.ws (l.take k) := by
  obtain ⟨h1, h2, h3⟩ := h
  rcases h3 with rfl | ⟨a, ha, h4⟩
  · exact ⟨hD.1, hD.2, rfl⟩
  · obtain ⟨q, rfl⟩ : ∃ q, k = q + 1 := ⟨k - 1, by
      have : k ≠ 0 := by
        rintro rfl
        exact h2 0 a (Nat.le_refl _) ha h4
      omega⟩
    simp only [Nat.add_sub_cancel] at ha
    have e : l.take (q + 1) = l.take q ++ [a] := by rw [List.take_add_one, ha]; rfl
    rw [e, runR_snoc, seenF_snoc]
    have hs : stepR (runR D (l.take q)) a = flu (runR D (l.take q)) := by unfold stepR; rw [if_neg (by omega), if_neg (by omega)]
    rw [hs]
    refine ⟨rfl, rfl, ?_⟩
    unfold setR
    rw [if_neg (by omega)]
    show flushW _ _ = _
    rw [seenR_run, hD.1]
    rfl
theorem ws_keep (l : List RAct) : ∀ D : Dst, (∀ a ∈ l, a.1 = 1 ∨ a.1 = 2) → (runR D l).ws = D.ws := by
  induction l with
  | nil => intro D _; rfl
  | cons a l ih =>
    intro D h
    show (runR (stepR D a) l).ws = _
    rw [ih _ (fun x hx => h x (by simp [hx]))]
    have := h a (by simp)
    unfold stepR
    split
    · rfl
    · split
      · rfl
      · omega
/-- What was done is right. -/
def ROk (n : Nat) (l : List RAct) : Prop := ∀ a ∈ l, (a.1 = 1 ∨ a.1 = 2 ∨ a.1 = 3) ∧ 0 ≤ a.2.1 ∧ a.2.1 < n ∧ 0 ≤ a.2.2 ∧ a.2.2 ≤ 65535
theorem ROk.snoc {n : Nat} {l : List RAct} {a : RAct} (h : ROk n l) (ha : (a.1 = 1 ∨ a.1 = 2 ∨ a.1 = 3) ∧ 0 ≤ a.2.1 ∧ a.2.1 < n ∧ 0 ≤ a.2.2 ∧ a.2.2 ≤ 65535) : ROk n (l ++ [a]) := by
  intro x hx
  rcases List.mem_append.1 hx with hx | hx
  · exact h x hx
  · rw [List.mem_singleton.1 hx]; exact ha
theorem kept_is {n : Nat} {l : List RAct} {k : Nat} (h : IsFl l k) (hr : ROk n l) (D : Dst) (hD : D.es = [] ∧ D.ep = 0) : (runR D l).ws = seenF D.ws (l.take k) := by
  have e : runR D l = runR (runR D (l.take k)) (l.drop k) := by rw [← runR_app, List.take_append_drop]
  rw [e, ws_keep, (fl_at h D hD).2.2]
  intro a ha
  obtain ⟨j, hj⟩ := List.mem_iff_getElem?.1 ha
  rw [List.getElem?_drop] at hj
  have h1 := h.2.1 (k + j) a (by omega) hj
  have h2 := (hr a (List.mem_of_getElem? hj)).1
  omega
theorem read_is (l : List RAct) (D : Dst) (hD : D.es = [] ∧ D.ep = 0) : flushW (runR D l).ws (runR D l).es = seenF D.ws l := by
  rw [seenR_run, hD.1]; rfl
end Go.Proofs.Ythhchccjpgpibaa
