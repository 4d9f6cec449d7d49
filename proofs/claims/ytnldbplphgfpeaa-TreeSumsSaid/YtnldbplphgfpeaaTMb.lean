/- What the maker makes is small. -/
import Derived.Test.YtnldbplphgfpeaaTMd
namespace Go.Proofs.Ytnldbplphgfpeaa
open Go Go.RowKit Go.Shelf
set_option linter.unusedVariables false
set_option linter.unusedSimpArgs false
set_option maxHeartbeats 4000000
def eB : Nat → Nat
  | 0 => 1
  | d + 1 => 1 + 3 * eB d
theorem eB_pos : ∀ d, 1 ≤ eB d
  | 0 => Nat.le_refl _
  | d + 1 => by simp only [eB]; omega
theorem leafM_sz (e : EvP) (width wh : Nat) (r : List Nat) : (leafM e width wh r).1.sz = 1 := by
  unfold leafM
  split <;> rfl
theorem exprM_sz (e : EvP) : ∀ (d width wh : Nat) (r : List Nat), (exprM e d width wh r).1.sz ≤ eB d
  | 0, width, wh, r => by simp only [exprM, eB]; rw [leafM_sz]; omega
  | d + 1, width, wh, r => by
    have hp := eB_pos d
    have ih := fun a b c => exprM_sz e d a b c
    simp only [exprM, eB]
    split
    · rw [leafM_sz]; omega
    · split
      · simp only [binE, Ex.sz, szs]
        have h1 := ih (1 + (nx 3 (nx 9 r).2).1) wh (nx 4 (nx 3 (nx 9 r).2).2).2
        have h2 := ih (1 + (nx 3 (nx 9 r).2).1) wh (exprM e d (1 + (nx 3 (nx 9 r).2).1) wh (nx 4 (nx 3 (nx 9 r).2).2).2).2
        omega
      · split
        · simp only [binE, Ex.sz, szs]
          have h1 := ih width wh (nx 10 (nx 9 r).2).2
          have h2 := ih width wh (exprM e d width wh (nx 10 (nx 9 r).2).2).2
          omega
        · split
          · simp only [Ex.sz, szs]
            have h1 := ih 1 wh (nx 9 r).2
            have h2 := ih width wh (exprM e d 1 wh (nx 9 r).2).2
            have h3 := ih width wh (exprM e d width wh (exprM e d 1 wh (nx 9 r).2).2).2
            omega
          · split
            · split
              · simp only [Ex.sz, szs]
                have h1 := ih width wh (nx 2 (nx 2 (nx 9 r).2).2).2
                omega
              · simp only [Ex.sz, szs]
                have h1 := ih (1 + (nx 3 (nx 2 (nx 9 r).2).2).1) wh (nx 3 (nx 2 (nx 9 r).2).2).2
                omega
            · split
              · simp only [Ex.sz, szs]
                have h1 := ih 2 wh (nx 9 r).2
                omega
              · split
                · simp only [Ex.sz, szs]
                  have h1 := ih 2 wh (nx 9 r).2
                  omega
                · rw [leafM_sz]; omega
theorem rep_sz {f : List Nat → St Unit × List Nat} {S : Nat} (hf : ∀ r, (f r).1.sz ≤ S) : ∀ (n : Nat) (r : List Nat), szS (rep f n r).1 ≤ n * S
  | 0, r => by simp [rep, szS]
  | n + 1, r => by
    have h1 := rep_sz hf n r
    have h2 := hf (rep f n r).2
    simp only [rep, szS_append, szS]
    rw [Nat.succ_mul]
    omega
theorem listM_sz {f : List Nat → St Unit × List Nat} {S : Nat} (hf : ∀ r, (f r).1.sz ≤ S) (most : Nat) (r : List Nat) : szS (listM f most r).1 ≤ most * S := by
  unfold listM
  refine Nat.le_trans (rep_sz hf _ _) (Nat.mul_le_mul_right _ ?_)
  have := nx_lt (n := most + 1) (by omega) r
  omega
theorem oneG_sz (e : EvP) (inner : Option (List Nat → St Unit × List Nat)) (flat : List Nat → St Unit × List Nat) (S F : Nat) (hf : ∀ f, inner = some f → ∀ r, (f r).1.sz ≤ S) (hF : ∀ r, inner.isSome = true → (flat r).1.sz ≤ F) (r : List Nat) : (oneG e inner flat r).1.sz ≤ 30 + 3 * S + 2 * F := by
  have h1 := fun w x r => exprM_sz e 1 w x r
  have h2 := fun w x r => exprM_sz e 2 w x r
  simp only [eB] at h1 h2
  simp only [oneG]
  split
  · simp only [stM, St.sz, szs, szS]
    have a := h1 2 0 (nx 16 r).2
    have b := h2 e.w 0 (exprM e 1 2 0 (nx 16 r).2).2
    omega
  · split
    · simp only [stM, St.sz, szs, szS]; omega
    · split
      · simp only [stM, St.sz, szs, szS]; omega
      · split
        · simp only [stM, St.sz, szs, szS]
          have a := h2 (setD e (nx 4 (nx 16 r).2).1).2 0 (nx 4 (nx 16 r).2).2
          omega
        · split
          · simp only [stM, St.sz, szs, szS]
            have a := h1 2 0 (nx 16 r).2
            have b := h1 e.w 0 (exprM e 1 2 0 (nx 16 r).2).2
            omega
          · split
            · rename_i hc
              obtain ⟨f, hfe⟩ := Option.isSome_iff_exists.1 hc.2
              subst hfe
              simp only [stM, St.sz, szs, Option.getD_some]
              have a := h2 1 0 (nx 16 r).2
              have b := listM_sz (hf f rfl) 2 (exprM e 2 1 0 (nx 16 r).2).2
              have c := listM_sz (hf f rfl) 1 (listM f 2 (exprM e 2 1 0 (nx 16 r).2).2).2
              omega
            · split
              · rename_i hc
                simp only [stM, St.sz, szs, szS, szS_append, binE, nameE, numE, Ex.sz]
                have b := listM_sz (S := F) (fun r => hF r hc.2) 2 (nx 16 r).2
                omega
              · split
                · simp only [stM, St.sz, szs, szS]
                  have a := h1 e.w 0 (nx 16 r).2
                  omega
                · simp only [stM, St.sz, szs, szS, leafM_sz]; omega
theorem one0_sz (e : EvP) (r : List Nat) : (one0 e r).1.sz ≤ 30 := by
  have := oneG_sz e none (fun r => (stM 0 ⟨#[]⟩ [] 0 [] [], r)) 0 0 (fun f h => by cases h) (fun r h => by cases h) r
  unfold one0
  omega
def sB : Nat → Nat
  | 0 => 30
  | d + 1 => 90 + 3 * sB d
theorem oneM_sz (e : EvP) : ∀ (d : Nat) (r : List Nat), (oneM e d r).1.sz ≤ sB d
  | 0, r => one0_sz e r
  | d + 1, r => by
    have := oneG_sz e (some (oneM e d)) (one0 e) (sB d) 30 (fun f h r => by injection h with h; subst h; exact oneM_sz e d r) (fun r _ => one0_sz e r) r
    simp only [oneM, sB]
    omega
theorem stmtsM_sz (e : EvP) (most deep : Nat) (r : List Nat) : szS (stmtsM e most deep r).1 ≤ most * sB deep := listM_sz (oneM_sz e deep) most r
theorem initsM_sz (e : EvP) : ∀ (b : Nat) (r : List Nat), szI (initsM e b r).1 ≤ b * 5
  | 0, r => by simp [initsM, szI]
  | b + 1, r => by
    have h1 := initsM_sz e b r
    simp only [initsM]
    split
    · have h2 := exprM_sz e 1 e.w 1 (nx 3 (initsM e b r).2).2
      simp only [eB] at h2
      simp only [szI, List.map_append, List.map_cons, List.map_nil, List.sum_append, List.sum_cons, List.sum_nil] at h1 ⊢
      omega
    · simp only; omega
theorem initsM_len (e : EvP) : ∀ (b : Nat) (r : List Nat), (initsM e b r).1.length ≤ b
  | 0, r => by simp [initsM]
  | b + 1, r => by
    have h1 := initsM_len e b r
    simp only [initsM]
    split
    · simp only [List.length_append, List.length_cons, List.length_nil]; omega
    · simp only; omega
/-- What it makes, in parts. -/
theorem madeM_sz (l : List Nat) : (madeM l).sz ≤ 10000 ∧ (∃ w : Int, (madeM l).gh = [⟨sG, w, 0⟩, ⟨sH, 1, 0⟩]) ∧ (∃ w : Int, (madeM l).va = [⟨sV, w, 0⟩, ⟨sC, 2, 0⟩]) ∧ (∃ b w : Nat, (madeM l).bl = (b : Int) ∧ b ≤ 3 ∧ (madeM l).wd = (w : Int) ∧ w ≤ 3) ∧ (madeM l).ins.length ≤ 2 ∧ (madeM l).ar.length = 1 ∧ (madeM l).inits.length ≤ 3 ∧ (madeM l).procs.length ≤ 1 ∧ (madeM l).req.sz ≤ 13 ∧ (madeM l).inv.sz ≤ 40 := by
  obtain ⟨⟨a1, r1⟩, h1⟩ : ∃ p, nx 3 (l.take 200) = p := ⟨_, rfl⟩
  obtain ⟨⟨a2, r2⟩, h2⟩ : ∃ p, nx 3 r1 = p := ⟨_, rfl⟩
  obtain ⟨⟨k, r3⟩, h3⟩ : ∃ p, nx 3 r2 = p := ⟨_, rfl⟩
  obtain ⟨⟨a4, r4⟩, h4⟩ : ∃ p, nx 2 r3 = p := ⟨_, rfl⟩
  obtain ⟨⟨a5, r5⟩, h5⟩ : ∃ p, nx 3 r4 = p := ⟨_, rfl⟩
  have b1 := nx_lt (n := 3) (by omega) (l.take 200)
  have b2 := nx_lt (n := 3) (by omega) r1
  have b3 := nx_lt (n := 3) (by omega) r2
  rw [h1] at b1
  rw [h2] at b2
  rw [h3] at b3
  dsimp only at b1 b2 b3
  obtain ⟨ins, hi⟩ : ∃ ins, ins = ([⟨sI, ((1 + a2 : Nat) : Int), 0⟩, ⟨sJ, 1, 0⟩] : List Dc).take k := ⟨_, rfl⟩
  have hil : ins.length = k := by rw [hi, List.length_take]; simp; omega
  rw [← hil] at h3 hi
  obtain ⟨e0, he⟩ : ∃ e0 : EvP, e0 = ⟨1 + a2, ins, [⟨sG, ((1 + a2 : Nat) : Int), 0⟩, ⟨sH, 1, 0⟩], [⟨sV, ((1 + a2 : Nat) : Int), 0⟩, ⟨sC, 2, 0⟩], false, false⟩ := ⟨_, rfl⟩
  obtain ⟨⟨q, r6⟩, h6⟩ : ∃ p, (if a5 = 0 then exprM e0 2 1 1 r5 else (numE 1 1, r5)) = p := ⟨_, rfl⟩
  obtain ⟨⟨is, r7⟩, h7⟩ : ∃ p, initsM e0 (1 + a1) r6 = p := ⟨_, rfl⟩
  obtain ⟨⟨f, r8⟩, h8⟩ : ∃ p, nx 2 r7 = p := ⟨_, rfl⟩
  obtain ⟨r9, h10⟩ : ∃ r9, r9 = if f = 1 then (stmtsM { e0 with param := true } 3 1 r8).2 else r8 := ⟨_, rfl⟩
  obtain ⟨procs, h9⟩ : ∃ procs : List (Pr Unit), procs = if f = 1 then [⟨sP, (), [⟨sX, ((1 + a2 : Nat) : Int), 0⟩], (), (stmtsM { e0 with param := true } 3 1 r8).1⟩] else [] := ⟨_, rfl⟩
  obtain ⟨⟨kk, r10⟩, h11⟩ : ∃ p, stmtsM { e0 with hasP := decide (f = 1) } 5 2 r9 = p := ⟨_, rfl⟩
  obtain ⟨⟨c, r11⟩, h12⟩ : ∃ p, stmtsM { e0 with hasP := decide (f = 1) } 3 1 r10 = p := ⟨_, rfl⟩
  obtain ⟨⟨v, r12⟩, h13⟩ : ∃ p, exprM { e0 with hasP := decide (f = 1) } 3 1 2 r11 = p := ⟨_, rfl⟩
  rw [madeM_eq h1 h2 h3 hi h4 h5 he h6 h7 h8 h9 h10 h11 h12 h13]
  have q1 : q.sz ≤ 13 := by
    have h := congrArg (fun p => p.1.sz) h6
    dsimp only at h
    rw [← h]
    split
    · have := exprM_sz e0 2 1 1 r5
      simp only [eB] at this
      omega
    · simp [numE, Ex.sz, szs]
  have q2 : szI is ≤ 15 := by
    have h := initsM_sz e0 (1 + a1) r6
    rw [h7] at h
    dsimp only at h
    omega
  have q3 : szPr procs ≤ 700 ∧ procs.length ≤ 1 := by
    rw [h9]
    split
    · have := stmtsM_sz { e0 with param := true } 3 1 r8
      simp only [sB] at this
      simp only [szPr, List.map_cons, List.map_nil, List.sum_cons, List.sum_nil, List.length_cons, List.length_nil]
      omega
    · simp [szPr]
  have q4 : szS kk ≤ 3150 := by
    have h := stmtsM_sz { e0 with hasP := decide (f = 1) } 5 2 r9
    rw [h11] at h
    simp only [sB] at h
    omega
  have q5 : szS c ≤ 700 := by
    have h := stmtsM_sz { e0 with hasP := decide (f = 1) } 3 1 r10
    rw [h12] at h
    simp only [sB] at h
    omega
  have q6 : v.sz ≤ 40 := by
    have h := exprM_sz { e0 with hasP := decide (f = 1) } 3 1 2 r11
    rw [h13] at h
    simp only [eB] at h
    omega
  have q7 : is.length ≤ 3 := by
    have h := initsM_len e0 (1 + a1) r6
    rw [h7] at h
    dsimp only at h
    omega
  refine ⟨?_, ⟨_, rfl⟩, ⟨_, rfl⟩, ⟨_, _, rfl, by omega, rfl, by omega⟩, by dsimp only; omega, rfl, q7, q3.2, q1, q6⟩
  simp only [Pg.sz, List.length_cons, List.length_nil]
  omega
end Go.Proofs.Ytnldbplphgfpeaa
