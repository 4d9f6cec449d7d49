/- The maker: stmts. -/
import Derived.Test.YtnldbplphgfpeaaTMe
import Derived.Deep.CutBlock
import Derived.Deep.DeepCutAuto
namespace Go.Proofs.Ytnldbplphgfpeaa
open Go Go.RowKit Go.Shelf
set_option linter.unusedVariables false
set_option linter.unusedSimpArgs false
set_option maxHeartbeats 8000000
section
variable {e : EvP} {k a b o n : Nat} {r r1 r2 r3 r4 r5 : List Nat} {x y : Ex Unit} {t u : List (St Unit)} {inner : Option (List Nat → St Unit × List Nat)} {f flat : List Nat → St Unit × List Nat}
theorem oneG_write (hk : nx 16 r = (k, r1)) (h : k < 5) (hx : exprM e 1 2 0 r1 = (x, r2)) (hy : exprM e 2 e.w 0 r2 = (y, r3)) : oneG e inner flat r = (stM 3 ⟨#[]⟩ [x, y] 0 [] [], r3) := by
  simp only [oneG, hk]
  rw [if_pos h]
  simp only [hx, hy]
theorem oneG_flush (hk : nx 16 r = (k, r1)) (h : ¬ k < 5) (h2 : k < 7) : oneG e inner flat r = (stM 4 ⟨#[]⟩ [] 0 [] [], r1) := by
  simp only [oneG, hk]
  rw [if_neg h, if_pos h2]
theorem oneG_barrier (hk : nx 16 r = (7, r1)) : oneG e inner flat r = (stM 5 ⟨#[]⟩ [] 0 [] [], r1) := by
  simp [oneG, hk]
theorem oneG_set (hk : nx 16 r = (k, r1)) (h : ¬ k < 8) (h2 : k < 10) (ho : nx 4 r1 = (o, r2)) (hx : exprM e 2 (setD e o).2 0 r2 = (x, r3)) : oneG e inner flat r = (stM 1 (setD e o).1 [x] 0 [] [], r3) := by
  simp only [oneG, hk]
  rw [if_neg (by omega), if_neg (by omega), if_neg (by omega), if_pos h2]
  simp only [ho, hx]
theorem oneG_put (hk : nx 16 r = (10, r1)) (hx : exprM e 1 2 0 r1 = (x, r2)) (hy : exprM e 1 e.w 0 r2 = (y, r3)) : oneG e inner flat r = (stM 2 sA [x, y] 0 [] [], r3) := by
  simp [oneG, hk, hx, hy]
theorem oneG_if (hk : nx 16 r = (k, r1)) (h : ¬ k < 11) (h2 : k < 13) (hx : exprM e 2 1 0 r1 = (x, r2)) (ht : listM f 2 r2 = (t, r3)) (hu : listM f 1 r3 = (u, r4)) : oneG e (some f) flat r = (stM 6 ⟨#[]⟩ [x] 0 t u, r4) := by
  simp only [oneG, hk]
  rw [if_neg (by omega), if_neg (by omega), if_neg (by omega), if_neg (by omega), if_neg (by omega), if_pos ⟨h2, rfl⟩]
  simp only [Option.getD_some, hx, ht, hu]
theorem oneG_while (hk : nx 16 r = (13, r1)) (ht : listM flat 2 r1 = (t, r2)) (ha : nx 3 r2 = (a, r3)) (hb : nx 3 r3 = (b, r4)) : oneG e (some f) flat r = (stM 7 ⟨#[]⟩ [binE 15 (nameE sC) (numE ((1 + b : Nat) : Int) 2)] ((1 + a : Nat) : Int) (t ++ [stM 1 sC [binE 3 (nameE sC) (numE 1 2)] 0 [] []]) [], r4) := by
  simp [oneG, hk, ht, ha, hb]
theorem oneG_call (hk : nx 16 r = (14, r1)) (hp : e.param = false) (hh : e.hasP = true) (hx : exprM e 1 e.w 0 r1 = (x, r2)) : oneG e inner flat r = (stM 8 sP [x] 0 [] [], r2) := by
  simp [oneG, hk, hp, hh, hx]
theorem oneG_other (hk : nx 16 r = (k, r1)) (h : ¬ k < 11) (h1 : ¬ (k < 13 ∧ inner.isSome = true)) (h2 : ¬ (k = 13 ∧ inner.isSome = true)) (h3 : ¬ (k = 14 ∧ e.param = false ∧ e.hasP = true)) (hx : leafM e 1 0 r1 = (x, r2)) (hy : leafM e e.w 0 r2 = (y, r3)) : oneG e inner flat r = (stM 3 ⟨#[]⟩ [x, y] 0 [] [], r3) := by
  simp only [oneG, hk]
  rw [if_neg (by omega), if_neg (by omega), if_neg (by omega), if_neg (by omega), if_neg (by omega), if_neg h1, if_neg h2, if_neg h3]
  simp only [hx, hy]
end
/-- What a maker of statements leaves. -/
def SPost (B : Nat) (w : World) (M : Nat) (cs : Array Value) (d : Rd) (e : Ev) (p : List (St Unit) × List Nat) (x : Ending) (w' : World) : Prop :=
  ∃ (tA : Option Addr) (tc : Nat) (news : List (St Loc)), x = .returned (.slice tA news.length tc) ∧ plainS news = p.1 ∧ Lst.own eT w' w.heap.size ⟨tA, tc⟩ news ∧ (Lst.fp ⟨tA, tc⟩ news).Nodup ∧ Mk B w' M cs d e p.2 ∧ Only [M] w w'
def StmtsOk (deep : Nat) : Prop := ∀ (most : Nat), most ≤ 5 → ∀ (B M : Nat) (cs : Array Value) (d : Rd) (e : Ev) (r : List Nat) (w : World), Mk B w M cs d e r → B ≤ w.heap.size →
  Calls Try.prog 34 #[.pointer (some ⟨M, 0, none⟩), .int .i64 most, .int .i64 deep] w (SPost B w M cs d e (stmtsM e.p most deep r))
section
variable {e : EvP} {deep dd k a b o n : Nat} {r r1 r2 r3 r4 r5 : List Nat} {x y : Ex Unit} {t u : List (St Unit)}
theorem oneM_write (hk : nx 16 r = (k, r1)) (h : k < 5) (hx : exprM e 1 2 0 r1 = (x, r2)) (hy : exprM e 2 e.w 0 r2 = (y, r3)) : oneM e deep r = (stM 3 ⟨#[]⟩ [x, y] 0 [] [], r3) := by
  cases deep <;> exact oneG_write hk h hx hy
theorem oneM_flush (hk : nx 16 r = (k, r1)) (h : ¬ k < 5) (h2 : k < 7) : oneM e deep r = (stM 4 ⟨#[]⟩ [] 0 [] [], r1) := by
  cases deep <;> exact oneG_flush hk h h2
theorem oneM_barrier (hk : nx 16 r = (7, r1)) : oneM e deep r = (stM 5 ⟨#[]⟩ [] 0 [] [], r1) := by
  cases deep <;> exact oneG_barrier hk
theorem oneM_set (hk : nx 16 r = (k, r1)) (h : ¬ k < 8) (h2 : k < 10) (ho : nx 4 r1 = (o, r2)) (hx : exprM e 2 (setD e o).2 0 r2 = (x, r3)) : oneM e deep r = (stM 1 (setD e o).1 [x] 0 [] [], r3) := by
  cases deep <;> exact oneG_set hk h h2 ho hx
theorem oneM_put (hk : nx 16 r = (10, r1)) (hx : exprM e 1 2 0 r1 = (x, r2)) (hy : exprM e 1 e.w 0 r2 = (y, r3)) : oneM e deep r = (stM 2 sA [x, y] 0 [] [], r3) := by
  cases deep <;> exact oneG_put hk hx hy
theorem oneM_if (hk : nx 16 r = (k, r1)) (h : ¬ k < 11) (h2 : k < 13) (hx : exprM e 2 1 0 r1 = (x, r2)) (ht : stmtsM e 2 dd r2 = (t, r3)) (hu : stmtsM e 1 dd r3 = (u, r4)) : oneM e (dd + 1) r = (stM 6 ⟨#[]⟩ [x] 0 t u, r4) := oneG_if hk h h2 hx ht hu
theorem oneM_while (hk : nx 16 r = (13, r1)) (ht : stmtsM e 2 0 r1 = (t, r2)) (ha : nx 3 r2 = (a, r3)) (hb : nx 3 r3 = (b, r4)) : oneM e (dd + 1) r = (stM 7 ⟨#[]⟩ [binE 15 (nameE sC) (numE ((1 + b : Nat) : Int) 2)] ((1 + a : Nat) : Int) (t ++ [stM 1 sC [binE 3 (nameE sC) (numE 1 2)] 0 [] []]) [], r4) := oneG_while hk ht ha hb
theorem oneM_call (hk : nx 16 r = (14, r1)) (hp : e.param = false) (hh : e.hasP = true) (hx : exprM e 1 e.w 0 r1 = (x, r2)) : oneM e deep r = (stM 8 sP [x] 0 [] [], r2) := by
  cases deep <;> exact oneG_call hk hp hh hx
theorem oneM_other (hk : nx 16 r = (k, r1)) (h : ¬ k < 11) (h1 : ¬ (k < 13 ∧ 0 < deep)) (h2 : ¬ (k = 13 ∧ 0 < deep)) (h3 : ¬ (k = 14 ∧ e.param = false ∧ e.hasP = true)) (hx : leafM e 1 0 r1 = (x, r2)) (hy : leafM e e.w 0 r2 = (y, r3)) : oneM e deep r = (stM 3 ⟨#[]⟩ [x, y] 0 [] [], r3) := by
  cases deep with
  | zero => exact oneG_other hk h (by simp) (by simp) h3 hx hy
  | succ d => exact oneG_other hk h (fun q => h1 ⟨q.1, by omega⟩) (fun q => h2 ⟨q.1, by omega⟩) h3 hx hy
end
theorem rep_step (f : List Nat → St Unit × List Nat) {k : Nat} {r r1 r2 : List Nat} {l : List (St Unit)} {x : St Unit} (h : rep f k r = (l, r1)) (hx : f r1 = (x, r2)) : rep f (k + 1) r = (l ++ [x], r2) := by
  simp only [rep, h, hx]
/-- What stmts lays for itself in a round: the cells of the statement. -/
structure SL (w : World) (M s : Nat) (W : World) : Prop where
  x : Blk W s 51 #[.int .u8 0, .string ⟨#[]⟩, .slice none 0 0, .int .i64 0, .slice none 0 0, .slice none 0 0]
  on : Only [M] w W
  ml : M < w.heap.size
  o : w.heap.size ≤ s
section
variable {w W W' : World} {M s : Nat}
theorem SL.step (h : SL w M s W) (ho : Only [M] W W') : SL w M s W' :=
  have l := h.ml; have l1 := h.o
  ⟨h.x.only ho (by simp; omega), h.on.trans ho, l, l1⟩
theorem SL.new (h : SL w M s W) (hb : Below W.heap.size W W') : SL w M s W' := h.step (only_of_below [M] hb)
theorem SL.size (h : SL w M s W) : s < W.heap.size := h.x.lt
theorem SL.le {B : Nat} (h : SL w M s W) (hB : B ≤ w.heap.size) : B ≤ W.heap.size := Nat.le_trans hB h.on.size
end
/-- So many statements are made. -/
structure SLp (B : Nat) (w : World) (M : Nat) (cs : Array Value) (d : Rd) (e : Ev) (p : List (St Unit) × List Nat) (k n : Nat) (tA : Option Addr) (tc : Nat) (news : List (St Loc)) (W : World) : Prop where
  kn : k ≤ n
  len : news.length = k
  pl : plainS news = p.1
  own : Lst.own eT W w.heap.size ⟨tA, tc⟩ news
  nd : (Lst.fp ⟨tA, tc⟩ news).Nodup
  mks : Mk B W M cs d e p.2
  on : Only [M] w W
/-- The next statement lies in its cells. -/
def SR (B : Nat) (w : World) (M : Nat) (cs : Array Value) (d : Rd) (e : Ev) (p : St Unit × List Nat) (s : Nat) (wx : World) : Prop :=
  ∃ L : St Loc, L.plain = p.1 ∧ Blk wx s 51 (L.cells eT).toArray ∧ L.own eT wx (s + 1) ∧ L.fp.Nodup ∧ Mk B wx M cs d e p.2 ∧ Only [M] w wx
theorem stmt_end {B M : Nat} {cs : Array Value} {d : Rd} {e : Ev} {r : List Nat} {w WF : World} {s : Nat} (L : St Loc) (hbs : Blk WF s 51 #[.int .u8 0, .string ⟨#[]⟩, .slice none 0 0, .int .i64 0, .slice none 0 0, .slice none 0 0]) (hM : Mk B WF M cs d e r) (hO : Only [M] w WF) (hB : B ≤ w.heap.size) (hR : w.heap.size ≤ s) (hL : L.own eT WF (s + 1)) :
    Blk (WF.setCells s 0 (L.cells eT)) s 51 (L.cells eT).toArray ∧ Mk B (WF.setCells s 0 (L.cells eT)) M cs d e r ∧ Only [M] w (WF.setCells s 0 (L.cells eT)) ∧ L.own eT (WF.setCells s 0 (L.cells eT)) (s + 1) := by
  have hO8 := only_setCells (b := s) (L.cells eT) 0 WF
  have h1 := blk_setCells (L.cells eT) [.int .u8 0, .string ⟨#[]⟩, .slice none 0 0, .int .i64 0, .slice none 0 0, .slice none 0 0] [] [] 0 WF hbs rfl (by rw [L.cells_len]; rfl)
  refine ⟨by simpa using h1, hM.below (hO8.below (B := B) (by have := hO.size; omega) (by simp; omega)), hO.then hO8 (fun i hi hl => by simp at hi; omega), hL.keep hO8 (fun b hb hm => ?_)⟩
  rw [List.mem_singleton] at hm
  have := (hL.ge b hb).1
  omega
theorem stmt_kind {B M : Nat} {cs : Array Value} {d : Rd} {e : Ev} {r : List Nat} {w WF : World} {s : Nat} (kd : Int) (hbs : Blk WF s 51 #[.int .u8 0, .string ⟨#[]⟩, .slice none 0 0, .int .i64 0, .slice none 0 0, .slice none 0 0]) (hM : Mk B WF M cs d e r) (hO : Only [M] w WF) (hB : B ≤ w.heap.size) (hR : w.heap.size ≤ s) :
    Blk (WF.setCell ⟨s, 0, none⟩ (.int .u8 kd)) s 51 ((St.mk ⟨kd, ⟨#[]⟩, 0⟩ (⟨none, 0⟩ : Loc) ⟨none, 0⟩ ⟨none, 0⟩ [] [] []).cells eT).toArray ∧ Mk B (WF.setCell ⟨s, 0, none⟩ (.int .u8 kd)) M cs d e r ∧ Only [M] w (WF.setCell ⟨s, 0, none⟩ (.int .u8 kd)) ∧ (St.mk ⟨kd, ⟨#[]⟩, 0⟩ (⟨none, 0⟩ : Loc) ⟨none, 0⟩ ⟨none, 0⟩ [] [] []).own eT (WF.setCell ⟨s, 0, none⟩ (.int .u8 kd)) (s + 1) := by
  have hO8 : Only [s] WF (WF.setCell ⟨s, 0, none⟩ (.int .u8 kd)) := (Only.refl [s] WF).setCell (.inl (by simp)) _
  refine ⟨hbs.set_ 0 _, hM.below (hO8.below (B := B) (by have := hO.size; omega) (by simp; omega)), hO.then hO8 (fun i hi hl => by simp at hi; omega), ⟨World.ownsRow_nil _ _ _ _, trivial⟩, ⟨World.ownsRow_nil _ _ _ _, trivial⟩, ⟨World.ownsRow_nil _ _ _ _, trivial⟩⟩
/-- One more at the end of a list of one's own. -/
theorem append_st {W1 W2 : World} {base : Nat} {A : Option Addr} {c : Nat} {news : List (St Loc)} {L : St Loc} {v : Value} (ho : Lst.own eT W1 base ⟨A, c⟩ news) (hn : (Lst.fp ⟨A, c⟩ news).Nodup) (hL : L.own eT W1 base) (hLn : L.fp.Nodup) (hdj : ∀ b ∈ Lst.fp ⟨A, c⟩ news, b ∉ L.fp)
    (hrow : W2.ownsRow base 51 6 v (news.length + 1) (cellsS eT news ++ L.cells eT)) (hg : W1.grownBy W2 (Value.slice A news.length c).ownBlock) (hb : v.ownBlock = (Value.slice A news.length c).ownBlock ∨ v.ownBlock = some W1.heap.size) :
    ∃ A' c', v = .slice A' (news.length + 1) c' ∧ Lst.own eT W2 base ⟨A', c'⟩ (news ++ [L]) ∧ (Lst.fp ⟨A', c'⟩ (news ++ [L])).Nodup := by
  obtain ⟨A', c', rfl⟩ := own_form hrow
  have hof : ∀ b, b ∈ (Loc.mk A c).fp ↔ (Value.slice A news.length c).ownBlock = some b := fun b => own_fp ⟨A, c⟩ news.length b
  have hof' : ∀ b, b ∈ (Loc.mk A' c').fp ↔ (Value.slice A' (news.length + 1) c').ownBlock = some b := fun b => own_fp ⟨A', c'⟩ _ b
  have hn2 := List.nodup_append.1 hn
  have hne1 : ∀ b ∈ fpS news, some b ≠ (Value.slice A news.length c).ownBlock := fun b hb' e => hn2.2.2 b ((hof b).2 e.symm) b hb' rfl
  have hne2 : ∀ b ∈ L.fp, some b ≠ (Value.slice A news.length c).ownBlock := fun b hb' e => hdj b (List.mem_append_left _ ((hof b).2 e.symm)) hb'
  refine ⟨A', c', rfl, ⟨?_, ?_⟩, ?_⟩
  · rw [List.length_append, cellsS_append]
    have : cellsS eT [L] = L.cells eT := by simp [cellsS]
    rw [this]
    exact hrow
  · refine ownS_iff.2 fun x hx => ?_
    rcases List.mem_append.1 hx with hx | hx
    · have hox := ownS_iff.1 ho.2 x hx
      exact hox.same fun b hm => hg.block b (hox.ge b hm).2 (hne1 b (fpS_iff.2 ⟨x, hx, hm⟩))
    · rw [List.mem_singleton] at hx
      subst hx
      exact hL.same fun b hm => hg.block b (hL.ge b hm).2 (hne2 b hm)
  · show ((Loc.mk A' c').fp ++ fpS (news ++ [L])).Nodup
    rw [fpS_append]
    have e1 : fpS [L] = L.fp := by simp [fpS]
    rw [e1]
    refine List.nodup_append.2 ⟨Loc.fp_nodup _, List.nodup_append.2 ⟨hn2.2.1, hLn, fun a ha b hb' e => hdj a (List.mem_append_right _ ha) (by rw [e]; exact hb')⟩, fun a ha b hb' e => ?_⟩
    subst e
    have h1 := (hof' a).1 ha
    rcases hb with hb | hb
    · rw [h1] at hb
      rcases List.mem_append.1 hb' with hb' | hb'
      · exact hne1 a hb' hb
      · exact hne2 a hb' hb
    · rw [h1] at hb
      injection hb with hb
      rcases List.mem_append.1 hb' with hb' | hb'
      · have := (ownS_ge ho.2 a hb').2; omega
      · have := (hL.ge a hb').2; omega
theorem rep_len (f : List Nat → St Unit × List Nat) : ∀ (n : Nat) (r : List Nat), (rep f n r).1.length = n
  | 0, r => rfl
  | n + 1, r => by simp [rep, rep_len f n r]
theorem stmtsM_len (e : EvP) (most deep : Nat) (r : List Nat) : (stmtsM e most deep r).1.length ≤ most := by
  unfold stmtsM listM
  rw [rep_len]
  have := nx_lt (n := most + 1) (by omega) r
  omega
/-- c, a word, and what stands over both. -/
def xC : Ex Loc := .mk ⟨2, 0, 0, 0, ⟨#[99]⟩⟩ ⟨none, 0⟩ []
def xN (v : Int) : Ex Loc := .mk ⟨1, 0, v, 2, ⟨#[]⟩⟩ ⟨none, 0⟩ []
def xB (op : Int) (g : Nat) (v : Int) : Ex Loc := .mk ⟨6, op, 0, 0, ⟨#[]⟩⟩ ⟨some ⟨g, 0, none⟩, 2⟩ [xC, xN v]
theorem xB_own {W : World} {base g : Nat} (op v : Int) (hb : Blk W g 30 #[.int .u8 2, .int .u8 0, .int .u32 0, .int .i64 0, .string ⟨#[99]⟩, .slice none 0 0, .int .u8 1, .int .u8 0, .int .u32 v, .int .i64 2, .string ⟨#[]⟩, .slice none 0 0]) (hg : base ≤ g) : (xB op g v).own eT W base :=
  own_mk ⟨6, op, 0, 0, ⟨#[]⟩⟩ [xC, xN v] hb rfl hg (by simp) ⟨⟨World.ownsRow_nil _ _ _ _, trivial⟩, ⟨World.ownsRow_nil _ _ _ _, trivial⟩, trivial⟩
theorem xB_fp (op v : Int) (g : Nat) : (xB op g v).fp = [g] := rfl
theorem xB_plain (op b : Nat) (g : Nat) : (xB op g ((b : Nat) : Int)).plain = binE op (nameE sC) (numE (b : Nat) 2) := rfl
/-- The statement that counts c. -/
def stC (g1 g2 : Nat) : St Loc := .mk ⟨1, ⟨#[99]⟩, 0⟩ ⟨some ⟨g2, 0, none⟩, 1⟩ ⟨none, 0⟩ ⟨none, 0⟩ [xB 3 g1 1] [] []
theorem stC_own {W : World} {base g1 g2 : Nat} (h1 : (xB 3 g1 1).own eT W base) (hb : Blk W g2 30 #[.int .u8 6, .int .u8 3, .int .u32 0, .int .i64 0, .string ⟨#[]⟩, .slice (some ⟨g1, 0, none⟩) 2 2]) (hg : base ≤ g2) : (stC g1 g2).own eT W base :=
  ⟨own_mk ⟨0, 0, 0, 0, ⟨#[]⟩⟩ [xB 3 g1 1] hb rfl hg (by simp) ⟨h1, trivial⟩, ⟨World.ownsRow_nil _ _ _ _, trivial⟩, ⟨World.ownsRow_nil _ _ _ _, trivial⟩⟩
theorem stC_fp (g1 g2 : Nat) : (stC g1 g2).fp = [g2, g1] := rfl
theorem stC_plain (g1 g2 : Nat) : (stC g1 g2).plain = stM 1 sC [binE 3 (nameE sC) (numE 1 2)] 0 [] [] := rfl
set_option maxRecDepth 100000 in
theorem stmts_any {deep : Nat} (hd2 : deep ≤ 10) (ih : ∀ d, deep = d + 1 → StmtsOk d) (ih0 : 0 < deep → StmtsOk 0) : StmtsOk deep := by
  intro most hmost B M cs d e r w h hB
  obtain ⟨i0, hi, hz0, hz1, hz2⟩ := info_parts infoStmt
  replace hi := Lib.hid hi
  replace hz0 := Lib.hid hz0
  replace hz1 := Lib.hid hz1
  replace hz2 := Lib.hid hz2
  replace ih := Lib.hid ih
  replace ih0 := Lib.hid ih0
  obtain ⟨zI, hzI⟩ : ∃ zI : Int, zI = (deep : Int) := ⟨_, rfl⟩
  rw [← hzI]
  have zI0 : 0 ≤ zI := by omega
  have zI1 : zI ≤ 10 := by omega
  have hzI' := Lib.hid hzI
  clear hzI
  have c3 := h.cell (by omega) h.st.c3
  have hMl := h.nx.lt_size
  obtain ⟨⟨n, r0⟩, hn⟩ : ∃ p, nx (most + 1) r = p := ⟨_, rfl⟩
  have hltn := nx_lt (n := most + 1) (by omega) r
  have hc := nextM (most + 1) (by omega) (by omega) h hB
  rw [hn] at hc hltn
  dsimp only at hc hltn
  have e1 : ((most + 1 : Nat) : Int) = (most : Int) + 1 := by omega
  rw [e1] at hc
  have hpl : stmtsM e.p most deep r = rep (oneM e.p deep) n r0 := by
    unfold stmtsM listM
    rw [hn]
  rw [hpl]
  have hn6 : n ≤ 5 := by omega
  replace hn := Lib.hid hn
  replace hc := Lib.hid hc
  have h' := Lib.hid h
  have m0 : 0 ≤ (most : Int) := by omega
  have m1 : (most : Int) ≤ 5 := by omega
  clear e1 hpl h hltn
  go_enter Try.func34, Try.ntmps34
  go_wp2_with fail
  refine hc.out.mono ?_
  rintro xx W1 ⟨rfl, hM1, hO1⟩
  clear hc c3 hMl h' m0 m1 hmost
  have hn0 : 0 ≤ (n : Int) := by omega
  have hn5 : (n : Int) ≤ 5 := by omega
  go_wp2_with fail
  go_loopw [7, 22] (fun v7 v22 wr => ∃ (k : Nat) (tA : Option Addr) (tc : Nat) (news : List (St Loc)), v7 = .slice tA k tc ∧ v22 = .int .i64 k ∧ SLp B w M cs d e (rep (oneM e.p deep) k r0) k n tA tc news wr) (fun _ v22 _ => n - (intOf v22).toNat)
  case atStart => exact ⟨0, none, 0, [], rfl, rfl, Nat.zero_le _, rfl, rfl, ⟨World.ownsRow_nil _ _ _ _, trivial⟩, List.nodup_nil, hM1, hO1⟩
  case round =>
    clear hM1 hO1
    obtain ⟨k, tA, tc, news, rfl, rfl, hI⟩ := hrel
    have k0 : 0 ≤ (k : Int) := by omega
    have hkn := hI.kn
    by_cases hlt : k < n
    · obtain ⟨⟨pn, rk⟩, hq⟩ : ∃ q, rep (oneM e.p deep) k r0 = q := ⟨_, rfl⟩
      rw [hq] at hI
      obtain ⟨p1, hp1⟩ : ∃ p1, p1 = oneM e.p deep rk := ⟨_, rfl⟩
      have k1 : (k : Int) < (n : Int) := by omega
      have hBx := (Below.refl _ wr).alloc (Nat.le_refl _) (.cells #[.int .u8 0, .string ⟨#[]⟩, .slice none 0 0, .int .i64 0, .slice none 0 0, .slice none 0 0] 51)
      have hbs := Blk.new wr 51 #[.int .u8 0, .string ⟨#[]⟩, .slice none 0 0, .int .i64 0, .slice none 0 0, .slice none 0 0]
      have hS0 : SL wr M wr.heap.size (wr.alloc (.cells #[.int .u8 0, .string ⟨#[]⟩, .slice none 0 0, .int .i64 0, .slice none 0 0, .slice none 0 0] 51)) := ⟨hbs, only_of_below [M] hBx, hI.mks.nx.lt_size, Nat.le_refl _⟩
      have hwB : B ≤ wr.heap.size := Nat.le_trans hB hI.on.size
      have hM0 := hI.mks.new hwB hBx
      have hwr : w.heap.size ≤ wr.heap.size := hI.on.size
      have hI' := Lib.hid hI
      replace hq := Lib.hid hq
      replace hp1 := Lib.hid hp1
      clear hI hBx hbs
      go_upto_region 6 with (fail)
      generalize wr.alloc (.cells #[.int .u8 0, .string ⟨#[]⟩, .slice none 0 0, .int .i64 0, .slice none 0 0, .slice none 0 0] 51) = W0 at *
      obtain ⟨s, hs⟩ : ∃ s, wr.heap.size = s := ⟨_, rfl⟩
      rw [hs] at hS0 ⊢
      replace hs := Lib.hid hs
      obtain ⟨⟨q, r1⟩, hxk⟩ : ∃ p, nx 16 rk = p := ⟨_, rfl⟩
      have hltk := nx_lt (n := 16) (by omega) rk
      have hc := nextM 16 (by omega) (by omega) hM0 (hS0.le hwB)
      rw [hxk] at hc hltk
      dsimp only at hc hltk
      replace hxk := Lib.hid hxk
      replace hc := Lib.hid hc
      go_wp2_with fail
      refine hc.out.mono ?_
      rintro xx W1 ⟨rfl, hM1, hO1⟩
      have hS1 := hS0.step hO1
      clear hc hM0 hS0 hO1
      obtain ⟨qI, hqI⟩ : ∃ qI : Int, qI = (q : Int) := ⟨_, rfl⟩
      rw [← hqI]
      have hqI' := Lib.hid hqI
      clear hqI
      go_upto_block 2 with (fail)
      try dsimp only
      go_cut [] from 23 to 159 (fun wx => SR B wr M cs d e p1 s wx)
      case first =>
        have hw1 := hM1.st.w1
        have hw3 := hM1.st.w3
        by_cases hk5 : q < 5
        · have b5 : decide (qI < 5) = true := by have := hqI'.out; simp; omega
          have hq5 := Lib.hid hk5
          clear hk5
          obtain ⟨⟨tx, r2⟩, hxx⟩ : ∃ p, exprM e.p 1 (2) 0 r1 = p := ⟨_, rfl⟩
          have hc : Calls Try.prog 33 #[.pointer (some ⟨M, 0, none⟩), .int .i64 2, .int .i64 0, .int .i64 1] W1 (EPost B W1 M cs d e (exprM e.p 1 (2) 0 r1)) := expr_ok 1 (by omega) (2) 0 (by omega) (by omega) (by omega) B M cs d e r1 _ hM1 (hS1.le hwB)
          rw [hxx] at hc
          replace hxx := Lib.hid hxx
          replace hc := Lib.hid hc
          have hMl := hM1.nx.lt_size
          have hS1' := Lib.hid hS1
          have hM1' := Lib.hid hM1
          clear hS1 hM1
          have hszx : s < (W1).heap.size := hS1'.out.size
          go_wp2_with fail
          refine hc.out.mono ?_
          rintro xx W2 ⟨xk, xo, xv, xw, xn, xA, xc, xs, rfl, hpx, hLx, hdx, hM2, hO2⟩
          have hS2 := hS1'.out.step hO2
          have hGx := Lib.hid hLx.ge
          have hZ2 := hO2.size
          replace hLx := Lib.hid hLx
          replace hdx := Lib.hid hdx
          try dsimp only at hpx hM2
          replace hpx := Lib.hid hpx
          clear hMl
          clear hc hS1' hM1' hO2
          obtain ⟨⟨ty, r3⟩, hxy⟩ : ∃ p, exprM e.p 2 (e.p.w) 0 r2 = p := ⟨_, rfl⟩
          have hc : Calls Try.prog 33 #[.pointer (some ⟨M, 0, none⟩), .int .i64 (e.p.w : Int), .int .i64 0, .int .i64 2] W2 (EPost B W2 M cs d e (exprM e.p 2 (e.p.w) 0 r2)) := expr_ok 2 (by omega) (e.p.w) 0 (hw1) (hw3) (by omega) B M cs d e r2 _ hM2 (hS2.le hwB)
          rw [hxy] at hc
          replace hxy := Lib.hid hxy
          replace hc := Lib.hid hc
          have hMl := hM2.nx.lt_size
          have hS2' := Lib.hid hS2
          have hM2' := Lib.hid hM2
          clear hS2 hM2
          have hszy : s < (W2).heap.size := hS2'.out.size
          go_wp2_with fail
          refine hc.out.mono ?_
          rintro xx W3 ⟨yk, yo, yv, yw, yn, yA, yc, ys, rfl, hpy, hLy, hdy, hM3, hO3⟩
          have hS3 := hS2'.out.step hO3
          have hGy := Lib.hid hLy.ge
          have hZ3 := hO3.size
          replace hLy := Lib.hid hLy
          replace hdy := Lib.hid hdy
          try dsimp only at hpy hM3
          replace hpy := Lib.hid hpy
          replace hLx := Lib.hid (hLx.out.keep hO3 (fun b hb hm => by rw [List.mem_singleton] at hm; have := (hGx.out b hb).1; have := hS2'.out.ml; have := hS2'.out.o; omega))
          clear hMl
          clear hc hS2' hM2' hO3
          have hBx := (Below.refl _ W3).alloc (Nat.le_refl _) (.cells #[.int .u8 xk, .int .u8 xo, .int .u32 xv, .int .i64 xw, .string xn, .slice xA xs.length xc, .int .u8 yk, .int .u8 yo, .int .u32 yv, .int .i64 yw, .string yn, .slice yA ys.length yc] 30)
          have hbg := Blk.new (W3) 30 #[.int .u8 xk, .int .u8 xo, .int .u32 xv, .int .i64 xw, .string xn, .slice xA xs.length xc, .int .u8 yk, .int .u8 yo, .int .u32 yv, .int .i64 yw, .string yn, .slice yA ys.length yc]
          obtain ⟨g, hg⟩ : ∃ g, (W3).heap.size = g := ⟨_, rfl⟩
          have hgg : (W3).heap.size ≤ g := by omega
          rw [hg] at hbg
          replace hg := Lib.hid hg
          have hsRi := hS3.size
          have hLg : Lex.own eT ((W3).alloc (.cells #[.int .u8 xk, .int .u8 xo, .int .u32 xv, .int .i64 xw, .string xn, .slice xA xs.length xc, .int .u8 yk, .int .u8 yo, .int .u32 yv, .int .i64 yw, .string yn, .slice yA ys.length yc] 30)) (s + 1) ⟨some ⟨g, 0, none⟩, 2⟩ [(Ex.mk ⟨xk, xo, xv, xw, xn⟩ (⟨xA, xc⟩ : Loc) xs), (Ex.mk ⟨yk, yo, yv, yw, yn⟩ (⟨yA, yc⟩ : Loc) ys)] := own_mk ⟨0, 0, 0, 0, ⟨#[]⟩⟩ [(Ex.mk ⟨xk, xo, xv, xw, xn⟩ (⟨xA, xc⟩ : Loc) xs), (Ex.mk ⟨yk, yo, yv, yw, yn⟩ (⟨yA, yc⟩ : Loc) ys)] hbg rfl (by omega) (by simp) ⟨(hLx.out.keep (only_of_below [] hBx) (by simp)).base_le hszx, (hLy.out.keep (only_of_below [] hBx) (by simp)).base_le hszy, trivial⟩
          have hdg : (Lex.fp ⟨some ⟨g, 0, none⟩, 2⟩ [(Ex.mk ⟨xk, xo, xv, xw, xn⟩ (⟨xA, xc⟩ : Loc) xs), (Ex.mk ⟨yk, yo, yv, yw, yn⟩ (⟨yA, yc⟩ : Loc) ys)]).Nodup := by
            show (g :: ((Ex.mk ⟨xk, xo, xv, xw, xn⟩ (⟨xA, xc⟩ : Loc) xs).fp ++ ((Ex.mk ⟨yk, yo, yv, yw, yn⟩ (⟨yA, yc⟩ : Loc) ys).fp ++ []))).Nodup
            rw [List.append_nil]
            refine List.nodup_cons.2 ⟨fun hm => ?_, ?_⟩
            · simp only [List.mem_append] at hm
              rcases hm with hm | hm
              · have := (hLx.out.ge g hm).2; omega
              · have := (hLy.out.ge g hm).2; omega
            · exact nodup_at hdx.out hdy.out (B := W2.heap.size) (fun b hb => (hGx.out b hb).2) (fun b hb => (hGy.out b hb).1)
          have hS4 := hS3.new hBx
          have hM4 := hM3.new (hS3.le hwB) hBx
          have hGg := Lib.hid hLg.ge
          have hpg : plains [(Ex.mk ⟨xk, xo, xv, xw, xn⟩ (⟨xA, xc⟩ : Loc) xs), (Ex.mk ⟨yk, yo, yv, yw, yn⟩ (⟨yA, yc⟩ : Loc) ys)] = [tx, ty] := by simp only [plains, hpx.out, hpy.out]
          replace hpg := Lib.hid hpg
          replace hLg := Lib.hid hLg
          replace hdg := Lib.hid hdg
          clear hLx hdx hGx hpx
          clear hLy hdy hGy hpy
          clear hBx hbg hS3 hM3
          have hL : ((St.mk ⟨3, ⟨#[]⟩, 0⟩ ⟨some ⟨g, 0, none⟩, 2⟩ ⟨none, 0⟩ ⟨none, 0⟩ [(Ex.mk ⟨xk, xo, xv, xw, xn⟩ (⟨xA, xc⟩ : Loc) xs), (Ex.mk ⟨yk, yo, yv, yw, yn⟩ (⟨yA, yc⟩ : Loc) ys)] [] []) : St Loc).own eT ((W3).alloc (.cells #[.int .u8 xk, .int .u8 xo, .int .u32 xv, .int .i64 xw, .string xn, .slice xA xs.length xc, .int .u8 yk, .int .u8 yo, .int .u32 yv, .int .i64 yw, .string yn, .slice yA ys.length yc] 30)) (s + 1) := ⟨hLg.out, ⟨World.ownsRow_nil _ _ _ _, trivial⟩, ⟨World.ownsRow_nil _ _ _ _, trivial⟩⟩
          have hLd : ((St.mk ⟨3, ⟨#[]⟩, 0⟩ ⟨some ⟨g, 0, none⟩, 2⟩ ⟨none, 0⟩ ⟨none, 0⟩ [(Ex.mk ⟨xk, xo, xv, xw, xn⟩ (⟨xA, xc⟩ : Loc) xs), (Ex.mk ⟨yk, yo, yv, yw, yn⟩ (⟨yA, yc⟩ : Loc) ys)] [] []) : St Loc).fp.Nodup := by
            show (Lex.fp ⟨some ⟨g, 0, none⟩, 2⟩ [(Ex.mk ⟨xk, xo, xv, xw, xn⟩ (⟨xA, xc⟩ : Loc) xs), (Ex.mk ⟨yk, yo, yv, yw, yn⟩ (⟨yA, yc⟩ : Loc) ys)] ++ (([] : List Nat) ++ ([] : List Nat))).Nodup
            simp only [List.append_nil, List.nil_append]
            exact hdg.out
          have hb9 := hS4.x
          have hbl := hb9.lt
          obtain ⟨hbf, hM9, hO9, hL9⟩ := stmt_end (w := wr) (St.mk ⟨3, ⟨#[]⟩, 0⟩ ⟨some ⟨g, 0, none⟩, 2⟩ ⟨none, 0⟩ ⟨none, 0⟩ [(Ex.mk ⟨xk, xo, xv, xw, xn⟩ (⟨xA, xc⟩ : Loc) xs), (Ex.mk ⟨yk, yo, yv, yw, yn⟩ (⟨yA, yc⟩ : Loc) ys)] [] []) hS4.x hM4 hS4.on hwB hS4.o hL
          simp only [St.cells, eT, List.length_cons, List.length_nil, Nat.reduceAdd] at hbf hM9 hO9 hL9
          generalize hW9 : World.setCells _ s 0 _ = W9 at hbf hM9 hO9 hL9
          replace hW9 := Lib.hid hW9
          replace hbf := Lib.hid hbf
          replace hM9 := Lib.hid hM9
          replace hO9 := Lib.hid hO9
          replace hL9 := Lib.hid hL9
          replace hLd := Lib.hid hLd
          clear hL
          try simp only []
          repeat ((fail_if_success (with_reducible refine wpList_store_at 51 (.tmp 9) (.tmp 43) s 0 #[.int .u8 3, .string ⟨#[]⟩, .slice (some ⟨g, 0, none⟩) 2 2, .int .i64 0, .slice none 0 0, .slice none 0 0] ?_ ?_ ?_ ?_ ?_ ?_)); (first | go_skip | go_guarded | go_step | go_upon | go_simp))
          try rw [hg.out]
          refine wpList_store_at 51 (.tmp 9) (.tmp 43) s 0 #[.int .u8 3, .string ⟨#[]⟩, .slice (some ⟨g, 0, none⟩) 2 2, .int .i64 0, .slice none 0 0, .slice none 0 0] rfl rfl (there_blk_at hb9 (by simp)) (by kernel_rfl) (by simp [Value.oneCell']) ?_
          try simp only [Act.put, List.setIfInBounds_toArray, List.set_cons_zero, List.set_cons_succ]
          rw [hW9.out]
          go_wp2_with fail
          go_meet
          refine ⟨St.mk ⟨3, ⟨#[]⟩, 0⟩ ⟨some ⟨g, 0, none⟩, 2⟩ ⟨none, 0⟩ ⟨none, 0⟩ [(Ex.mk ⟨xk, xo, xv, xw, xn⟩ (⟨xA, xc⟩ : Loc) xs), (Ex.mk ⟨yk, yo, yv, yw, yn⟩ (⟨yA, yc⟩ : Loc) ys)] [] [], ?_, hbf.out, hL9.out, hLd.out, ?_, hO9.out⟩
          · rw [hp1.out, oneM_write hxk.out hq5.out hxx.out hxy.out]
            show St.mk _ () () () (plains [(Ex.mk ⟨xk, xo, xv, xw, xn⟩ (⟨xA, xc⟩ : Loc) xs), (Ex.mk ⟨yk, yo, yv, yw, yn⟩ (⟨yA, yc⟩ : Loc) ys)]) (plainS []) (plainS []) = _
            rw [hpg.out]
            rfl
          · rw [hp1.out, oneM_write hxk.out hq5.out hxx.out hxy.out]; exact hM9.out
        by_cases hk7 : q < 7
        · have b5 : decide (qI < 5) = false := by have := hqI'.out; simp; omega
          have b7 : decide (qI < 7) = true := by have := hqI'.out; simp; omega
          have hq5 := Lib.hid hk5
          have hq7 := Lib.hid hk7
          clear hk5 hk7
          obtain ⟨hbf, hM9, hO9, hL9⟩ := stmt_kind (w := wr) 4 hS1.x hM1 hS1.on hwB hS1.o
          have f0 := hS1.x.frozen 0
          have q0 := hS1.x.cell 0
          have hbl := hS1.x.lt
          simp only [List.getElem?_toArray, List.getElem?_cons_zero] at q0
          replace hbf := Lib.hid hbf
          replace hM9 := Lib.hid hM9
          replace hO9 := Lib.hid hO9
          replace hL9 := Lib.hid hL9
          clear hS1 hM1
          go_wp2_with fail
          go_meet
          exact ⟨St.mk ⟨4, ⟨#[]⟩, 0⟩ ⟨none, 0⟩ ⟨none, 0⟩ ⟨none, 0⟩ [] [] [], by rw [hp1.out, oneM_flush hxk.out hq5.out hq7.out]; rfl, hbf.out, hL9.out, List.nodup_nil, by rw [hp1.out, oneM_flush hxk.out hq5.out hq7.out]; exact hM9.out, hO9.out⟩
        by_cases hk7e : q = 7
        · obtain rfl : q = 7 := hk7e
          obtain rfl : qI = 7 := by simpa using hqI'.out
          clear hk5 hk7
          obtain ⟨hbf, hM9, hO9, hL9⟩ := stmt_kind (w := wr) 5 hS1.x hM1 hS1.on hwB hS1.o
          have f0 := hS1.x.frozen 0
          have q0 := hS1.x.cell 0
          have hbl := hS1.x.lt
          simp only [List.getElem?_toArray, List.getElem?_cons_zero] at q0
          replace hbf := Lib.hid hbf
          replace hM9 := Lib.hid hM9
          replace hO9 := Lib.hid hO9
          replace hL9 := Lib.hid hL9
          clear hS1 hM1
          go_wp2_with fail
          go_meet
          exact ⟨St.mk ⟨5, ⟨#[]⟩, 0⟩ ⟨none, 0⟩ ⟨none, 0⟩ ⟨none, 0⟩ [] [] [], by rw [hp1.out, oneM_barrier hxk.out]; rfl, hbf.out, hL9.out, List.nodup_nil, by rw [hp1.out, oneM_barrier hxk.out]; exact hM9.out, hO9.out⟩
        by_cases hk10 : q < 10
        · have b5 : decide (qI < 5) = false := by have := hqI'.out; simp; omega
          have b7 : decide (qI < 7) = false := by have := hqI'.out; simp; omega
          have b7e : (qI == 7) = false := by have := hqI'.out; simp; omega
          have b10 : decide (qI < 10) = true := by have := hqI'.out; simp; omega
          have hq8 : ¬ q < 8 := by omega
          replace hq8 := Lib.hid hq8
          have hq10 := Lib.hid hk10
          clear hk5 hk7 hk7e hk10
          have hBx := (Below.refl _ W1).alloc (Nat.le_refl _) (.cells #[.string ⟨#[118]⟩, .int .i64 e.p.w, .int .i64 0, .string ⟨#[99]⟩, .int .i64 2, .int .i64 0, .string ⟨#[103]⟩, .int .i64 e.p.w, .int .i64 0, .string ⟨#[104]⟩, .int .i64 1, .int .i64 0] 60)
          have hbd := Blk.new W1 60 #[.string ⟨#[118]⟩, .int .i64 e.p.w, .int .i64 0, .string ⟨#[99]⟩, .int .i64 2, .int .i64 0, .string ⟨#[103]⟩, .int .i64 e.p.w, .int .i64 0, .string ⟨#[104]⟩, .int .i64 1, .int .i64 0]
          obtain ⟨gd, hgd⟩ : ∃ g, W1.heap.size = g := ⟨_, rfl⟩
          have hgM : M ≠ gd := by have := hM1.nx.lt_size; omega
          rw [hgd] at hbd
          have hS2 := hS1.new hBx
          have hM2 := hM1.new (hS1.le hwB) hBx
          clear hBx hS1 hM1
          obtain ⟨⟨o, r2⟩, hxo⟩ : ∃ p, nx 4 r1 = p := ⟨_, rfl⟩
          have hlto := nx_lt (n := 4) (by omega) r1
          have hc := nextM 4 (by omega) (by omega) hM2 (hS2.le hwB)
          rw [hxo] at hc hlto
          dsimp only at hc hlto
          replace hxo := Lib.hid hxo
          replace hc := Lib.hid hc
          have hMl := hM2.nx.lt_size
          have hS2' := Lib.hid hS2
          have hM2' := Lib.hid hM2
          clear hS2 hM2
          go_wp2_with fail
          refine hc.out.mono ?_
          rintro xx W3 ⟨rfl, hM3, hO3⟩
          have hS3 := hS2'.out.step hO3
          clear hMl
          have hbd3 := hbd.only hO3 (by simp; omega)
          clear hc hS2' hM2' hO3
          obtain ⟨⟨nm, wd⟩, hnw⟩ : ∃ p, setD e.p o = p := ⟨_, rfl⟩
          have hcell : (1 ≤ wd ∧ wd ≤ 3) ∧ W3.cell? ⟨gd, o * 3, none⟩ = some (.string nm) ∧ W3.cell? ⟨gd, o * 3 + 1, none⟩ = some (.int .i64 wd) ∧ W3.cell? ⟨gd, o * 3 + 2, none⟩ = some (.int .i64 0) := by
            have ho : o = 0 ∨ o = 1 ∨ o = 2 ∨ o = 3 := by omega
            rcases ho with rfl | rfl | rfl | rfl
            · obtain ⟨rfl, rfl⟩ : sV = nm ∧ e.p.w = wd := by simpa [setD] using hnw
              exact ⟨⟨hw1, hw3⟩, hbd3.cell 0, hbd3.cell 1, hbd3.cell 2⟩
            · obtain ⟨rfl, rfl⟩ : sC = nm ∧ 2 = wd := by simpa [setD] using hnw
              exact ⟨⟨by omega, by omega⟩, hbd3.cell 3, hbd3.cell 4, hbd3.cell 5⟩
            · obtain ⟨rfl, rfl⟩ : sG = nm ∧ e.p.w = wd := by simpa [setD] using hnw
              exact ⟨⟨hw1, hw3⟩, hbd3.cell 6, hbd3.cell 7, hbd3.cell 8⟩
            · obtain ⟨rfl, rfl⟩ : sH = nm ∧ 1 = wd := by simpa [setD] using hnw
              exact ⟨⟨by omega, by omega⟩, hbd3.cell 9, hbd3.cell 10, hbd3.cell 11⟩
          obtain ⟨⟨hwd1, hwd3⟩, f0, f1, f2⟩ := hcell
          replace hnw := Lib.hid hnw
          have hgl := hbd3.lt
          have o0 : 0 ≤ (o : Int) := by omega
          have o4 : (o : Int) < 4 := by omega
          have hBy := (Below.refl _ W3).alloc (Nat.le_refl _) (.cells #[.string nm, .int .i64 wd, .int .i64 0] 60)
          have hbe := Blk.new W3 60 #[.string nm, .int .i64 wd, .int .i64 0]
          have hsd := hS3.x.lt
          have hS4 := hS3.new hBy
          have hM4 := hM3.new (hS3.le hwB) hBy
          clear hBy hS3 hM3 hbd hbd3
          go_upto_region 16 with (fail)
          generalize W3.alloc (.cells #[.string nm, .int .i64 wd, .int .i64 0] 60) = W4 at *
          obtain ⟨db, hdb⟩ : ∃ b, W3.heap.size = b := ⟨_, rfl⟩
          rw [hdb] at hbe hsd ⊢
          replace hdb := Lib.hid hdb
          clear f0 f1 f2 hgl
          obtain ⟨⟨tx, r3⟩, hxx⟩ : ∃ p, exprM e.p 2 wd 0 r2 = p := ⟨_, rfl⟩
          have hBd : Below W4.heap.size W4 W4.drew := (Below.refl _ W4).drew
          have hS5 := hS4.new hBd
          have hM5 := hM4.new (hS4.le hwB) hBd
          have hc : Calls Try.prog 33 #[.pointer (some ⟨M, 0, none⟩), .int .i64 wd, .int .i64 0, .int .i64 2] W4.drew (EPost B W4.drew M cs d e (exprM e.p 2 wd 0 r2)) := expr_ok 2 (by omega) wd 0 hwd1 hwd3 (by omega) B M cs d e r2 _ hM5 (hS5.le hwB)
          rw [hxx] at hc
          have hMdb : M ≠ db := by have := hS4.ml; have := hS4.o; omega
          have hszx : s < W4.drew.heap.size := hS5.size
          have hdbl := hbe.lt
          replace hxx := Lib.hid hxx
          replace hc := Lib.hid hc
          have hS5' := Lib.hid hS5
          clear hS4 hM4 hM5 hS5
          obtain ⟨S, hSi, hSe⟩ : ∃ S : World → Prop, (∀ W, (W.cell? ⟨db, 0, none⟩ = some (.string nm) ∧ W.cell? ⟨db, 1, none⟩ = some (.int .i64 wd)) → S W) ∧ (∀ W, S W → (W.cell? ⟨db, 0, none⟩ = some (.string nm) ∧ W.cell? ⟨db, 1, none⟩ = some (.int .i64 wd))) := ⟨fun W => W.cell? ⟨db, 0, none⟩ = some (.string nm) ∧ W.cell? ⟨db, 1, none⟩ = some (.int .i64 wd), fun _ h => h, fun _ h => h⟩
          have hS : S W4.drew := hSi _ ⟨hbe.cell 0, hbe.cell 1⟩
          replace hSi := Lib.hid hSi
          replace hSe := Lib.hid hSe
          refine wp_region_held (S := S) (by kernel_rfl) ?_
          change wpAnyH _ _ _ _ _ _ _ _ (World.drew _)
          refine takeH 0 (v := ?_) rfl (by kernel_rfl) (by kernel_rfl) (by kernel_rfl) (fun _ _ _ h => h) (by rfl) hS ?_ ?_
          rotate_left
          · (intro wz hSw; obtain ⟨z0, z1⟩ := hSe.out _ hSw; go_simp; try with_reducible rfl)
          try simp only [Act.put, List.setIfInBounds_toArray, List.set_cons_zero, List.set_cons_succ]
          refine takeH 2 (v := ?_) rfl (by kernel_rfl) (by kernel_rfl) (by kernel_rfl) (fun _ _ _ h => h) (by rfl) hS ?_ ?_
          rotate_left
          · (intro wz hSw; obtain ⟨z0, z1⟩ := hSe.out _ hSw; go_simp; try with_reducible rfl)
          try simp only [Act.put, List.setIfInBounds_toArray, List.set_cons_zero, List.set_cons_succ]
          refine takeH 3 (v := ?_) rfl (by kernel_rfl) (by kernel_rfl) (by kernel_rfl) (fun _ _ _ h => h) (by rfl) hS ?_ ?_
          rotate_left
          · (intro wz hSw; obtain ⟨z0, z1⟩ := hSe.out _ hSw; go_simp; try with_reducible rfl)
          try simp only [Act.put, List.setIfInBounds_toArray, List.set_cons_zero, List.set_cons_succ]
          refine takeH 1 (v := .string nm) rfl (by kernel_rfl) (by kernel_rfl) (by kernel_rfl) (fun _ _ _ h => h) (by rfl) hS ?_ ?_
          · (intro wz hSw; obtain ⟨z0, z1⟩ := hSe.out _ hSw; go_simp)
          try simp only [Act.put, List.setIfInBounds_toArray, List.set_cons_zero, List.set_cons_succ]
          refine takeH 4 (v := .int .i64 wd) rfl (by kernel_rfl) (by kernel_rfl) (by kernel_rfl) (fun _ _ _ h => h) (by rfl) hS ?_ ?_
          · (intro wz hSw; obtain ⟨z0, z1⟩ := hSe.out _ hSw; go_simp)
          try simp only [Act.put, List.setIfInBounds_toArray, List.set_cons_zero, List.set_cons_succ]
          refine callH 5 rfl (by kernel_rfl) (fun K hK => ?_)
          go_simp
          go_wp2_with (go_at_call 33; refine hc.out.mono ?_; rintro xx W6 ⟨xk, xo, xv, xw, xn, xA, xc, xs, rfl, hpx, hLx, hdx, hM6, hO6⟩)
          have hS6 := hS5'.out.step hO6
          have hbe6 := hbe.drew.only hO6 (by simp; omega)
          refine hK.out _ _ (hSi.out _ ⟨hbe6.cell 0, hbe6.cell 1⟩) (fun hSn => ?_)
          clear hK K hS
          have hS := hSn
          clear hSn
          refine callH 6 rfl (by kernel_rfl) (fun K hK => ?_)
          go_simp
          have hBz := (Below.refl _ W6).alloc (Nat.le_refl _) (.cells #[.int .u8 xk, .int .u8 xo, .int .u32 xv, .int .i64 xw, .string xn, .slice xA xs.length xc] 30)
          have hbg := Blk.new W6 30 #[.int .u8 xk, .int .u8 xo, .int .u32 xv, .int .i64 xw, .string xn, .slice xA xs.length xc]
          obtain ⟨g, hg⟩ : ∃ g, W6.heap.size = g := ⟨_, rfl⟩
          rw [hg] at hbg
          have hgg : W6.heap.size ≤ g := by omega
          replace hg := Lib.hid hg
          have hbe7 := hbe6.alloc (.cells #[.int .u8 xk, .int .u8 xo, .int .u32 xv, .int .i64 xw, .string xn, .slice xA xs.length xc] 30)
          have hS7 := hS6.new hBz
          have hM7 := hM6.new (hS6.le hwB) hBz
          have hS6s := hS6.size
          have hLg : Lex.own eT (W6.alloc (.cells #[.int .u8 xk, .int .u8 xo, .int .u32 xv, .int .i64 xw, .string xn, .slice xA xs.length xc] 30)) (s + 1) ⟨some ⟨g, 0, none⟩, 1⟩ [(Ex.mk ⟨xk, xo, xv, xw, xn⟩ (⟨xA, xc⟩ : Loc) xs)] := own_mk ⟨0, 0, 0, 0, ⟨#[]⟩⟩ [(Ex.mk ⟨xk, xo, xv, xw, xn⟩ (⟨xA, xc⟩ : Loc) xs)] hbg rfl (by omega) (by simp) ⟨(hLx.keep (only_of_below [] hBz) (by simp)).base_le hszx, trivial⟩
          have hdg : (Lex.fp ⟨some ⟨g, 0, none⟩, 1⟩ [(Ex.mk ⟨xk, xo, xv, xw, xn⟩ (⟨xA, xc⟩ : Loc) xs)]).Nodup := by
            show (g :: ((Ex.mk ⟨xk, xo, xv, xw, xn⟩ (⟨xA, xc⟩ : Loc) xs).fp ++ [])).Nodup
            rw [List.append_nil]
            exact List.nodup_cons.2 ⟨fun hm => by have := (hLx.ge g hm).2; omega, hdx⟩
          generalize (W6.alloc (.cells #[.int .u8 xk, .int .u8 xo, .int .u32 xv, .int .i64 xw, .string xn, .slice xA xs.length xc] 30)) = W7 at *
          try rw [hg.out]
          refine hK.out _ _ (hSi.out _ ⟨hbe7.cell 0, hbe7.cell 1⟩) (fun hSn => ?_)
          clear hK K hS
          have hS := hSn
          clear hSn
          refine takeH 7 (v := .agg #[.int .u8 1, .string nm, .slice (some ⟨g, 0, none⟩) 1 1, .int .i64 0, .slice none 0 0, .slice none 0 0]) rfl (by kernel_rfl) (by kernel_rfl) (by kernel_rfl) (fun _ _ _ h => h) (by rfl) hS ?_ ?_
          · (intro wz hSw; obtain ⟨z0, z1⟩ := hSe.out _ hSw; go_simp)
          try simp only [Act.put, List.setIfInBounds_toArray, List.set_cons_zero, List.set_cons_succ]
          refine callH 8 rfl (by kernel_rfl) (fun K hK => ?_)
          rw [if_pos (by rfl)]
          have hLo : ((St.mk ⟨1, nm, 0⟩ ⟨some ⟨g, 0, none⟩, 1⟩ ⟨none, 0⟩ ⟨none, 0⟩ [(Ex.mk ⟨xk, xo, xv, xw, xn⟩ (⟨xA, xc⟩ : Loc) xs)] [] []) : St Loc).own eT W7 (s + 1) := ⟨hLg, ⟨World.ownsRow_nil _ _ _ _, trivial⟩, ⟨World.ownsRow_nil _ _ _ _, trivial⟩⟩
          have hb9 := hS7.x
          obtain ⟨hbf, hM9, hO9, hL9⟩ := stmt_end (w := wr) (St.mk ⟨1, nm, 0⟩ ⟨some ⟨g, 0, none⟩, 1⟩ ⟨none, 0⟩ ⟨none, 0⟩ [(Ex.mk ⟨xk, xo, xv, xw, xn⟩ (⟨xA, xc⟩ : Loc) xs)] [] []) hS7.x hM7 hS7.on hwB hS7.o hLo
          simp only [St.cells, eT, List.length_cons, List.length_nil, Nat.reduceAdd] at hbf hM9 hO9 hL9
          have hbe9 := hbe7.only (only_setCells (b := s) [.int .u8 1, .string nm, .slice (some ⟨g, 0, none⟩) 1 1, .int .i64 0, .slice none 0 0, .slice none 0 0] 0 W7) (by simp; omega)
          refine wp_store_mid 51 (.tmp 9) (.tmp 73) rfl s 0 #[.int .u8 1, .string nm, .slice (some ⟨g, 0, none⟩) 1 1, .int .i64 0, .slice none 0 0, .slice none 0 0] rfl rfl (there_blk_at hb9 (by simp)) (by kernel_rfl) (by simp [Value.oneCell']) ?_
          refine hK.out _ _ (hSi.out _ ⟨hbe9.cell 0, hbe9.cell 1⟩) (fun hSn => ?_)
          clear hK K hS
          have hS := hSn
          clear hSn
          refine wpAnyH_done (by kernel_rfl) ?_ _
          clear hS hSi hSe
          clear S
          generalize World.setCells W7 s 0 _ = W9 at *
          replace hbf := Lib.hid hbf
          replace hM9 := Lib.hid hM9
          replace hO9 := Lib.hid hO9
          replace hL9 := Lib.hid hL9
          replace hdg := Lib.hid hdg
          replace hpx := Lib.hid hpx
          go_wp2_with fail
          go_meet
          have hx' : exprM e.p 2 (setD e.p o).2 0 r2 = (tx, r3) := by rw [hnw.out]; exact hxx.out
          have hpl := oneM_set (deep := deep) hxk.out hq8.out hq10.out hxo.out hx'
          rw [hnw.out] at hpl
          refine ⟨St.mk ⟨1, nm, 0⟩ ⟨some ⟨g, 0, none⟩, 1⟩ ⟨none, 0⟩ ⟨none, 0⟩ [(Ex.mk ⟨xk, xo, xv, xw, xn⟩ (⟨xA, xc⟩ : Loc) xs)] [] [], ?_, hbf.out, hL9.out, ?_, ?_, hO9.out⟩
          · rw [hp1.out, hpl]
            show St.mk _ () () () [(Ex.mk ⟨xk, xo, xv, xw, xn⟩ (⟨xA, xc⟩ : Loc) xs).plain] [] [] = _
            rw [hpx.out]
            rfl
          · show (Lex.fp ⟨some ⟨g, 0, none⟩, 1⟩ [(Ex.mk ⟨xk, xo, xv, xw, xn⟩ (⟨xA, xc⟩ : Loc) xs)] ++ ([] : List Nat)).Nodup
            rw [List.append_nil]
            exact hdg.out
          · rw [hp1.out, hpl]
            exact hM9.out
        by_cases hk10e : q = 10
        · obtain rfl : q = 10 := hk10e
          obtain rfl : qI = 10 := by simpa using hqI'.out
          clear hk5 hk7 hk7e hk10
          obtain ⟨⟨tx, r2⟩, hxx⟩ : ∃ p, exprM e.p 1 (2) 0 r1 = p := ⟨_, rfl⟩
          have hc : Calls Try.prog 33 #[.pointer (some ⟨M, 0, none⟩), .int .i64 2, .int .i64 0, .int .i64 1] W1 (EPost B W1 M cs d e (exprM e.p 1 (2) 0 r1)) := expr_ok 1 (by omega) (2) 0 (by omega) (by omega) (by omega) B M cs d e r1 _ hM1 (hS1.le hwB)
          rw [hxx] at hc
          replace hxx := Lib.hid hxx
          replace hc := Lib.hid hc
          have hMl := hM1.nx.lt_size
          have hS1' := Lib.hid hS1
          have hM1' := Lib.hid hM1
          clear hS1 hM1
          have hszx : s < (W1).heap.size := hS1'.out.size
          go_wp2_with fail
          refine hc.out.mono ?_
          rintro xx W2 ⟨xk, xo, xv, xw, xn, xA, xc, xs, rfl, hpx, hLx, hdx, hM2, hO2⟩
          have hS2 := hS1'.out.step hO2
          have hGx := Lib.hid hLx.ge
          have hZ2 := hO2.size
          replace hLx := Lib.hid hLx
          replace hdx := Lib.hid hdx
          try dsimp only at hpx hM2
          replace hpx := Lib.hid hpx
          clear hMl
          clear hc hS1' hM1' hO2
          obtain ⟨⟨ty, r3⟩, hxy⟩ : ∃ p, exprM e.p 1 (e.p.w) 0 r2 = p := ⟨_, rfl⟩
          have hc : Calls Try.prog 33 #[.pointer (some ⟨M, 0, none⟩), .int .i64 (e.p.w : Int), .int .i64 0, .int .i64 1] W2 (EPost B W2 M cs d e (exprM e.p 1 (e.p.w) 0 r2)) := expr_ok 1 (by omega) (e.p.w) 0 (hw1) (hw3) (by omega) B M cs d e r2 _ hM2 (hS2.le hwB)
          rw [hxy] at hc
          replace hxy := Lib.hid hxy
          replace hc := Lib.hid hc
          have hMl := hM2.nx.lt_size
          have hS2' := Lib.hid hS2
          have hM2' := Lib.hid hM2
          clear hS2 hM2
          have hszy : s < (W2).heap.size := hS2'.out.size
          go_wp2_with fail
          refine hc.out.mono ?_
          rintro xx W3 ⟨yk, yo, yv, yw, yn, yA, yc, ys, rfl, hpy, hLy, hdy, hM3, hO3⟩
          have hS3 := hS2'.out.step hO3
          have hGy := Lib.hid hLy.ge
          have hZ3 := hO3.size
          replace hLy := Lib.hid hLy
          replace hdy := Lib.hid hdy
          try dsimp only at hpy hM3
          replace hpy := Lib.hid hpy
          replace hLx := Lib.hid (hLx.out.keep hO3 (fun b hb hm => by rw [List.mem_singleton] at hm; have := (hGx.out b hb).1; have := hS2'.out.ml; have := hS2'.out.o; omega))
          clear hMl
          clear hc hS2' hM2' hO3
          have hBx := (Below.refl _ W3).alloc (Nat.le_refl _) (.cells #[.int .u8 xk, .int .u8 xo, .int .u32 xv, .int .i64 xw, .string xn, .slice xA xs.length xc, .int .u8 yk, .int .u8 yo, .int .u32 yv, .int .i64 yw, .string yn, .slice yA ys.length yc] 30)
          have hbg := Blk.new (W3) 30 #[.int .u8 xk, .int .u8 xo, .int .u32 xv, .int .i64 xw, .string xn, .slice xA xs.length xc, .int .u8 yk, .int .u8 yo, .int .u32 yv, .int .i64 yw, .string yn, .slice yA ys.length yc]
          obtain ⟨g, hg⟩ : ∃ g, (W3).heap.size = g := ⟨_, rfl⟩
          have hgg : (W3).heap.size ≤ g := by omega
          rw [hg] at hbg
          replace hg := Lib.hid hg
          have hsRi := hS3.size
          have hLg : Lex.own eT ((W3).alloc (.cells #[.int .u8 xk, .int .u8 xo, .int .u32 xv, .int .i64 xw, .string xn, .slice xA xs.length xc, .int .u8 yk, .int .u8 yo, .int .u32 yv, .int .i64 yw, .string yn, .slice yA ys.length yc] 30)) (s + 1) ⟨some ⟨g, 0, none⟩, 2⟩ [(Ex.mk ⟨xk, xo, xv, xw, xn⟩ (⟨xA, xc⟩ : Loc) xs), (Ex.mk ⟨yk, yo, yv, yw, yn⟩ (⟨yA, yc⟩ : Loc) ys)] := own_mk ⟨0, 0, 0, 0, ⟨#[]⟩⟩ [(Ex.mk ⟨xk, xo, xv, xw, xn⟩ (⟨xA, xc⟩ : Loc) xs), (Ex.mk ⟨yk, yo, yv, yw, yn⟩ (⟨yA, yc⟩ : Loc) ys)] hbg rfl (by omega) (by simp) ⟨(hLx.out.keep (only_of_below [] hBx) (by simp)).base_le hszx, (hLy.out.keep (only_of_below [] hBx) (by simp)).base_le hszy, trivial⟩
          have hdg : (Lex.fp ⟨some ⟨g, 0, none⟩, 2⟩ [(Ex.mk ⟨xk, xo, xv, xw, xn⟩ (⟨xA, xc⟩ : Loc) xs), (Ex.mk ⟨yk, yo, yv, yw, yn⟩ (⟨yA, yc⟩ : Loc) ys)]).Nodup := by
            show (g :: ((Ex.mk ⟨xk, xo, xv, xw, xn⟩ (⟨xA, xc⟩ : Loc) xs).fp ++ ((Ex.mk ⟨yk, yo, yv, yw, yn⟩ (⟨yA, yc⟩ : Loc) ys).fp ++ []))).Nodup
            rw [List.append_nil]
            refine List.nodup_cons.2 ⟨fun hm => ?_, ?_⟩
            · simp only [List.mem_append] at hm
              rcases hm with hm | hm
              · have := (hLx.out.ge g hm).2; omega
              · have := (hLy.out.ge g hm).2; omega
            · exact nodup_at hdx.out hdy.out (B := W2.heap.size) (fun b hb => (hGx.out b hb).2) (fun b hb => (hGy.out b hb).1)
          have hS4 := hS3.new hBx
          have hM4 := hM3.new (hS3.le hwB) hBx
          have hGg := Lib.hid hLg.ge
          have hpg : plains [(Ex.mk ⟨xk, xo, xv, xw, xn⟩ (⟨xA, xc⟩ : Loc) xs), (Ex.mk ⟨yk, yo, yv, yw, yn⟩ (⟨yA, yc⟩ : Loc) ys)] = [tx, ty] := by simp only [plains, hpx.out, hpy.out]
          replace hpg := Lib.hid hpg
          replace hLg := Lib.hid hLg
          replace hdg := Lib.hid hdg
          clear hLx hdx hGx hpx
          clear hLy hdy hGy hpy
          clear hBx hbg hS3 hM3
          have hL : ((St.mk ⟨2, ⟨#[97]⟩, 0⟩ ⟨some ⟨g, 0, none⟩, 2⟩ ⟨none, 0⟩ ⟨none, 0⟩ [(Ex.mk ⟨xk, xo, xv, xw, xn⟩ (⟨xA, xc⟩ : Loc) xs), (Ex.mk ⟨yk, yo, yv, yw, yn⟩ (⟨yA, yc⟩ : Loc) ys)] [] []) : St Loc).own eT ((W3).alloc (.cells #[.int .u8 xk, .int .u8 xo, .int .u32 xv, .int .i64 xw, .string xn, .slice xA xs.length xc, .int .u8 yk, .int .u8 yo, .int .u32 yv, .int .i64 yw, .string yn, .slice yA ys.length yc] 30)) (s + 1) := ⟨hLg.out, ⟨World.ownsRow_nil _ _ _ _, trivial⟩, ⟨World.ownsRow_nil _ _ _ _, trivial⟩⟩
          have hLd : ((St.mk ⟨2, ⟨#[97]⟩, 0⟩ ⟨some ⟨g, 0, none⟩, 2⟩ ⟨none, 0⟩ ⟨none, 0⟩ [(Ex.mk ⟨xk, xo, xv, xw, xn⟩ (⟨xA, xc⟩ : Loc) xs), (Ex.mk ⟨yk, yo, yv, yw, yn⟩ (⟨yA, yc⟩ : Loc) ys)] [] []) : St Loc).fp.Nodup := by
            show (Lex.fp ⟨some ⟨g, 0, none⟩, 2⟩ [(Ex.mk ⟨xk, xo, xv, xw, xn⟩ (⟨xA, xc⟩ : Loc) xs), (Ex.mk ⟨yk, yo, yv, yw, yn⟩ (⟨yA, yc⟩ : Loc) ys)] ++ (([] : List Nat) ++ ([] : List Nat))).Nodup
            simp only [List.append_nil, List.nil_append]
            exact hdg.out
          have hb9 := hS4.x
          have hbl := hb9.lt
          obtain ⟨hbf, hM9, hO9, hL9⟩ := stmt_end (w := wr) (St.mk ⟨2, ⟨#[97]⟩, 0⟩ ⟨some ⟨g, 0, none⟩, 2⟩ ⟨none, 0⟩ ⟨none, 0⟩ [(Ex.mk ⟨xk, xo, xv, xw, xn⟩ (⟨xA, xc⟩ : Loc) xs), (Ex.mk ⟨yk, yo, yv, yw, yn⟩ (⟨yA, yc⟩ : Loc) ys)] [] []) hS4.x hM4 hS4.on hwB hS4.o hL
          simp only [St.cells, eT, List.length_cons, List.length_nil, Nat.reduceAdd] at hbf hM9 hO9 hL9
          generalize hW9 : World.setCells _ s 0 _ = W9 at hbf hM9 hO9 hL9
          replace hW9 := Lib.hid hW9
          replace hbf := Lib.hid hbf
          replace hM9 := Lib.hid hM9
          replace hO9 := Lib.hid hO9
          replace hL9 := Lib.hid hL9
          replace hLd := Lib.hid hLd
          clear hL
          try simp only []
          repeat ((fail_if_success (with_reducible refine wpList_store_at 51 (.tmp 9) (.tmp 83) s 0 #[.int .u8 2, .string ⟨#[97]⟩, .slice (some ⟨g, 0, none⟩) 2 2, .int .i64 0, .slice none 0 0, .slice none 0 0] ?_ ?_ ?_ ?_ ?_ ?_)); (first | go_skip | go_guarded | go_step | go_upon | go_simp))
          try rw [hg.out]
          refine wpList_store_at 51 (.tmp 9) (.tmp 83) s 0 #[.int .u8 2, .string ⟨#[97]⟩, .slice (some ⟨g, 0, none⟩) 2 2, .int .i64 0, .slice none 0 0, .slice none 0 0] rfl rfl (there_blk_at hb9 (by simp)) (by kernel_rfl) (by simp [Value.oneCell']) ?_
          try simp only [Act.put, List.setIfInBounds_toArray, List.set_cons_zero, List.set_cons_succ]
          rw [hW9.out]
          go_wp2_with fail
          go_meet
          refine ⟨St.mk ⟨2, ⟨#[97]⟩, 0⟩ ⟨some ⟨g, 0, none⟩, 2⟩ ⟨none, 0⟩ ⟨none, 0⟩ [(Ex.mk ⟨xk, xo, xv, xw, xn⟩ (⟨xA, xc⟩ : Loc) xs), (Ex.mk ⟨yk, yo, yv, yw, yn⟩ (⟨yA, yc⟩ : Loc) ys)] [] [], ?_, hbf.out, hL9.out, hLd.out, ?_, hO9.out⟩
          · rw [hp1.out, oneM_put hxk.out hxx.out hxy.out]
            show St.mk _ () () () (plains [(Ex.mk ⟨xk, xo, xv, xw, xn⟩ (⟨xA, xc⟩ : Loc) xs), (Ex.mk ⟨yk, yo, yv, yw, yn⟩ (⟨yA, yc⟩ : Loc) ys)]) (plainS []) (plainS []) = _
            rw [hpg.out]
            rfl
          · rw [hp1.out, oneM_put hxk.out hxx.out hxy.out]; exact hM9.out
        have hk11 : ¬ q < 11 := by omega
        clear hk5 hk7 hk7e hk10 hk10e
        by_cases hk13 : q < 13
        · have b5 : decide (qI < 5) = false := by have := hqI'.out; simp; omega
          have b7 : decide (qI < 7) = false := by have := hqI'.out; simp; omega
          have b7e : (qI == 7) = false := by have := hqI'.out; simp; omega
          have b10 : decide (qI < 10) = false := by have := hqI'.out; simp; omega
          have b10e : (qI == 10) = false := by have := hqI'.out; simp; omega
          have b13 : decide (qI < 13) = true := by have := hqI'.out; simp; omega
          have b13e : (qI == 13) = false := by have := hqI'.out; simp; omega
          have b14e : (qI == 14) = false := by have := hqI'.out; simp; omega
          by_cases hdp : deep = 0
          · have bz : decide (zI > 0) = false := by have := hzI'.out; simp; omega
            have ho : ¬ (q < 13 ∧ 0 < deep) := by omega
            have ho2 : ¬ (q = 13 ∧ 0 < deep) := by omega
            have ho3 : ¬ (q = 14 ∧ e.p.param = false ∧ e.p.hasP = true) := by omega
            replace ho := Lib.hid ho
            replace ho2 := Lib.hid ho2
            replace ho3 := Lib.hid ho3
            replace hk11 := Lib.hid hk11
            replace hdp := Lib.hid hdp
            clear hk13
            obtain ⟨⟨tx, r2⟩, hxx⟩ : ∃ p, leafM e.p (1) 0 r1 = p := ⟨_, rfl⟩
            have hc : Calls Try.prog 68 #[.pointer (some ⟨M, 0, none⟩), .int .i64 1, .int .i64 0] W1 (EPost B W1 M cs d e (leafM e.p (1) 0 r1)) := (leaf_ok (1) 0 (by omega) (by omega) (by omega) hM1 (hS1.le hwB)).mono fun x W' ⟨⟨xk, xo, xv, xw, xn⟩, h1, h2, h3, h4⟩ => ⟨xk, xo, xv, xw, xn, none, 0, [], h1, h2, ⟨World.ownsRow_nil _ _ _ _, trivial⟩, List.nodup_nil, h3, h4⟩
            rw [hxx] at hc
            replace hxx := Lib.hid hxx
            replace hc := Lib.hid hc
            have hMl := hM1.nx.lt_size
            have hS1' := Lib.hid hS1
            have hM1' := Lib.hid hM1
            clear hS1 hM1
            have hszx : s < (W1).heap.size := hS1'.out.size
            go_wp2_with fail
            refine hc.out.mono ?_
            rintro xx W2 ⟨xk, xo, xv, xw, xn, xA, xc, xs, rfl, hpx, hLx, hdx, hM2, hO2⟩
            have hS2 := hS1'.out.step hO2
            have hGx := Lib.hid hLx.ge
            have hZ2 := hO2.size
            replace hLx := Lib.hid hLx
            replace hdx := Lib.hid hdx
            try dsimp only at hpx hM2
            replace hpx := Lib.hid hpx
            clear hMl
            clear hc hS1' hM1' hO2
            obtain ⟨⟨ty, r3⟩, hxy⟩ : ∃ p, leafM e.p (e.p.w) 0 r2 = p := ⟨_, rfl⟩
            have hc : Calls Try.prog 68 #[.pointer (some ⟨M, 0, none⟩), .int .i64 (e.p.w : Int), .int .i64 0] W2 (EPost B W2 M cs d e (leafM e.p (e.p.w) 0 r2)) := (leaf_ok (e.p.w) 0 (hw1) (hw3) (by omega) hM2 (hS2.le hwB)).mono fun x W' ⟨⟨xk, xo, xv, xw, xn⟩, h1, h2, h3, h4⟩ => ⟨xk, xo, xv, xw, xn, none, 0, [], h1, h2, ⟨World.ownsRow_nil _ _ _ _, trivial⟩, List.nodup_nil, h3, h4⟩
            rw [hxy] at hc
            replace hxy := Lib.hid hxy
            replace hc := Lib.hid hc
            have hMl := hM2.nx.lt_size
            have hS2' := Lib.hid hS2
            have hM2' := Lib.hid hM2
            clear hS2 hM2
            have hszy : s < (W2).heap.size := hS2'.out.size
            go_wp2_with fail
            refine hc.out.mono ?_
            rintro xx W3 ⟨yk, yo, yv, yw, yn, yA, yc, ys, rfl, hpy, hLy, hdy, hM3, hO3⟩
            have hS3 := hS2'.out.step hO3
            have hGy := Lib.hid hLy.ge
            have hZ3 := hO3.size
            replace hLy := Lib.hid hLy
            replace hdy := Lib.hid hdy
            try dsimp only at hpy hM3
            replace hpy := Lib.hid hpy
            replace hLx := Lib.hid (hLx.out.keep hO3 (fun b hb hm => by rw [List.mem_singleton] at hm; have := (hGx.out b hb).1; have := hS2'.out.ml; have := hS2'.out.o; omega))
            clear hMl
            clear hc hS2' hM2' hO3
            have hBx := (Below.refl _ W3).alloc (Nat.le_refl _) (.cells #[.int .u8 xk, .int .u8 xo, .int .u32 xv, .int .i64 xw, .string xn, .slice xA xs.length xc, .int .u8 yk, .int .u8 yo, .int .u32 yv, .int .i64 yw, .string yn, .slice yA ys.length yc] 30)
            have hbg := Blk.new (W3) 30 #[.int .u8 xk, .int .u8 xo, .int .u32 xv, .int .i64 xw, .string xn, .slice xA xs.length xc, .int .u8 yk, .int .u8 yo, .int .u32 yv, .int .i64 yw, .string yn, .slice yA ys.length yc]
            obtain ⟨g, hg⟩ : ∃ g, (W3).heap.size = g := ⟨_, rfl⟩
            have hgg : (W3).heap.size ≤ g := by omega
            rw [hg] at hbg
            replace hg := Lib.hid hg
            have hsRi := hS3.size
            have hLg : Lex.own eT ((W3).alloc (.cells #[.int .u8 xk, .int .u8 xo, .int .u32 xv, .int .i64 xw, .string xn, .slice xA xs.length xc, .int .u8 yk, .int .u8 yo, .int .u32 yv, .int .i64 yw, .string yn, .slice yA ys.length yc] 30)) (s + 1) ⟨some ⟨g, 0, none⟩, 2⟩ [(Ex.mk ⟨xk, xo, xv, xw, xn⟩ (⟨xA, xc⟩ : Loc) xs), (Ex.mk ⟨yk, yo, yv, yw, yn⟩ (⟨yA, yc⟩ : Loc) ys)] := own_mk ⟨0, 0, 0, 0, ⟨#[]⟩⟩ [(Ex.mk ⟨xk, xo, xv, xw, xn⟩ (⟨xA, xc⟩ : Loc) xs), (Ex.mk ⟨yk, yo, yv, yw, yn⟩ (⟨yA, yc⟩ : Loc) ys)] hbg rfl (by omega) (by simp) ⟨(hLx.out.keep (only_of_below [] hBx) (by simp)).base_le hszx, (hLy.out.keep (only_of_below [] hBx) (by simp)).base_le hszy, trivial⟩
            have hdg : (Lex.fp ⟨some ⟨g, 0, none⟩, 2⟩ [(Ex.mk ⟨xk, xo, xv, xw, xn⟩ (⟨xA, xc⟩ : Loc) xs), (Ex.mk ⟨yk, yo, yv, yw, yn⟩ (⟨yA, yc⟩ : Loc) ys)]).Nodup := by
              show (g :: ((Ex.mk ⟨xk, xo, xv, xw, xn⟩ (⟨xA, xc⟩ : Loc) xs).fp ++ ((Ex.mk ⟨yk, yo, yv, yw, yn⟩ (⟨yA, yc⟩ : Loc) ys).fp ++ []))).Nodup
              rw [List.append_nil]
              refine List.nodup_cons.2 ⟨fun hm => ?_, ?_⟩
              · simp only [List.mem_append] at hm
                rcases hm with hm | hm
                · have := (hLx.out.ge g hm).2; omega
                · have := (hLy.out.ge g hm).2; omega
              · exact nodup_at hdx.out hdy.out (B := W2.heap.size) (fun b hb => (hGx.out b hb).2) (fun b hb => (hGy.out b hb).1)
            have hS4 := hS3.new hBx
            have hM4 := hM3.new (hS3.le hwB) hBx
            have hGg := Lib.hid hLg.ge
            have hpg : plains [(Ex.mk ⟨xk, xo, xv, xw, xn⟩ (⟨xA, xc⟩ : Loc) xs), (Ex.mk ⟨yk, yo, yv, yw, yn⟩ (⟨yA, yc⟩ : Loc) ys)] = [tx, ty] := by simp only [plains, hpx.out, hpy.out]
            replace hpg := Lib.hid hpg
            replace hLg := Lib.hid hLg
            replace hdg := Lib.hid hdg
            clear hLx hdx hGx hpx
            clear hLy hdy hGy hpy
            clear hBx hbg hS3 hM3
            have hL : ((St.mk ⟨3, ⟨#[]⟩, 0⟩ ⟨some ⟨g, 0, none⟩, 2⟩ ⟨none, 0⟩ ⟨none, 0⟩ [(Ex.mk ⟨xk, xo, xv, xw, xn⟩ (⟨xA, xc⟩ : Loc) xs), (Ex.mk ⟨yk, yo, yv, yw, yn⟩ (⟨yA, yc⟩ : Loc) ys)] [] []) : St Loc).own eT ((W3).alloc (.cells #[.int .u8 xk, .int .u8 xo, .int .u32 xv, .int .i64 xw, .string xn, .slice xA xs.length xc, .int .u8 yk, .int .u8 yo, .int .u32 yv, .int .i64 yw, .string yn, .slice yA ys.length yc] 30)) (s + 1) := ⟨hLg.out, ⟨World.ownsRow_nil _ _ _ _, trivial⟩, ⟨World.ownsRow_nil _ _ _ _, trivial⟩⟩
            have hLd : ((St.mk ⟨3, ⟨#[]⟩, 0⟩ ⟨some ⟨g, 0, none⟩, 2⟩ ⟨none, 0⟩ ⟨none, 0⟩ [(Ex.mk ⟨xk, xo, xv, xw, xn⟩ (⟨xA, xc⟩ : Loc) xs), (Ex.mk ⟨yk, yo, yv, yw, yn⟩ (⟨yA, yc⟩ : Loc) ys)] [] []) : St Loc).fp.Nodup := by
              show (Lex.fp ⟨some ⟨g, 0, none⟩, 2⟩ [(Ex.mk ⟨xk, xo, xv, xw, xn⟩ (⟨xA, xc⟩ : Loc) xs), (Ex.mk ⟨yk, yo, yv, yw, yn⟩ (⟨yA, yc⟩ : Loc) ys)] ++ (([] : List Nat) ++ ([] : List Nat))).Nodup
              simp only [List.append_nil, List.nil_append]
              exact hdg.out
            have hb9 := hS4.x
            have hbl := hb9.lt
            obtain ⟨hbf, hM9, hO9, hL9⟩ := stmt_end (w := wr) (St.mk ⟨3, ⟨#[]⟩, 0⟩ ⟨some ⟨g, 0, none⟩, 2⟩ ⟨none, 0⟩ ⟨none, 0⟩ [(Ex.mk ⟨xk, xo, xv, xw, xn⟩ (⟨xA, xc⟩ : Loc) xs), (Ex.mk ⟨yk, yo, yv, yw, yn⟩ (⟨yA, yc⟩ : Loc) ys)] [] []) hS4.x hM4 hS4.on hwB hS4.o hL
            simp only [St.cells, eT, List.length_cons, List.length_nil, Nat.reduceAdd] at hbf hM9 hO9 hL9
            generalize hW9 : World.setCells _ s 0 _ = W9 at hbf hM9 hO9 hL9
            replace hW9 := Lib.hid hW9
            replace hbf := Lib.hid hbf
            replace hM9 := Lib.hid hM9
            replace hO9 := Lib.hid hO9
            replace hL9 := Lib.hid hL9
            replace hLd := Lib.hid hLd
            clear hL
            try simp only []
            repeat ((fail_if_success (with_reducible refine wpList_store_at 51 (.tmp 9) (.tmp 33) s 0 #[.int .u8 3, .string ⟨#[]⟩, .slice (some ⟨g, 0, none⟩) 2 2, .int .i64 0, .slice none 0 0, .slice none 0 0] ?_ ?_ ?_ ?_ ?_ ?_)); (first | go_skip | go_guarded | go_step | go_upon | go_simp))
            try rw [hg.out]
            refine wpList_store_at 51 (.tmp 9) (.tmp 33) s 0 #[.int .u8 3, .string ⟨#[]⟩, .slice (some ⟨g, 0, none⟩) 2 2, .int .i64 0, .slice none 0 0, .slice none 0 0] rfl rfl (there_blk_at hb9 (by simp)) (by kernel_rfl) (by simp [Value.oneCell']) ?_
            try simp only [Act.put, List.setIfInBounds_toArray, List.set_cons_zero, List.set_cons_succ]
            rw [hW9.out]
            go_wp2_with fail
            go_meet
            refine ⟨St.mk ⟨3, ⟨#[]⟩, 0⟩ ⟨some ⟨g, 0, none⟩, 2⟩ ⟨none, 0⟩ ⟨none, 0⟩ [(Ex.mk ⟨xk, xo, xv, xw, xn⟩ (⟨xA, xc⟩ : Loc) xs), (Ex.mk ⟨yk, yo, yv, yw, yn⟩ (⟨yA, yc⟩ : Loc) ys)] [] [], ?_, hbf.out, hL9.out, hLd.out, ?_, hO9.out⟩
            · rw [hp1.out, oneM_other (deep := deep) hxk.out hk11.out ho.out (by first | exact ho2.out | exact fun q => ho2.out ⟨trivial, q.2⟩) (by first | exact ho3.out | exact fun q => ho3.out ⟨trivial, q.2⟩) hxx.out hxy.out]
              show St.mk _ () () () (plains [(Ex.mk ⟨xk, xo, xv, xw, xn⟩ (⟨xA, xc⟩ : Loc) xs), (Ex.mk ⟨yk, yo, yv, yw, yn⟩ (⟨yA, yc⟩ : Loc) ys)]) (plainS []) (plainS []) = _
              rw [hpg.out]
              rfl
            · rw [hp1.out, oneM_other (deep := deep) hxk.out hk11.out ho.out (by first | exact ho2.out | exact fun q => ho2.out ⟨trivial, q.2⟩) (by first | exact ho3.out | exact fun q => ho3.out ⟨trivial, q.2⟩) hxx.out hxy.out]; exact hM9.out
          · obtain ⟨dd, rfl⟩ : ∃ dd, deep = dd + 1 := ⟨deep - 1, by omega⟩
            have bz : decide (zI > 0) = true := by have := hzI'.out; simp; omega
            have hdd : (dd : Int) = zI - 1 := by have := hzI'.out; omega
            have ihd := ih.out dd rfl
            have hq11 := Lib.hid hk11
            have hq13 := Lib.hid hk13
            clear hk11 hk13 hdp
            obtain ⟨⟨tx, r2⟩, hxx⟩ : ∃ p, exprM e.p 2 (1) 0 r1 = p := ⟨_, rfl⟩
            have hc : Calls Try.prog 33 #[.pointer (some ⟨M, 0, none⟩), .int .i64 1, .int .i64 0, .int .i64 2] W1 (EPost B W1 M cs d e (exprM e.p 2 (1) 0 r1)) := expr_ok 2 (by omega) (1) 0 (by omega) (by omega) (by omega) B M cs d e r1 _ hM1 (hS1.le hwB)
            rw [hxx] at hc
            replace hxx := Lib.hid hxx
            replace hc := Lib.hid hc
            have hMl := hM1.nx.lt_size
            have hS1' := Lib.hid hS1
            have hM1' := Lib.hid hM1
            clear hS1 hM1
            have hszx : s < (W1).heap.size := hS1'.out.size
            go_wp2_with fail
            refine hc.out.mono ?_
            rintro xx W2 ⟨xk, xo, xv, xw, xn, xA, xc, xs, rfl, hpx, hLx, hdx, hM2, hO2⟩
            have hS2 := hS1'.out.step hO2
            have hGx := Lib.hid hLx.ge
            have hZ2 := hO2.size
            replace hLx := Lib.hid hLx
            replace hdx := Lib.hid hdx
            try dsimp only at hpx hM2
            replace hpx := Lib.hid hpx
            clear hMl
            clear hc hS1' hM1' hO2
            have hBx := (Below.refl _ W2).alloc (Nat.le_refl _) (.cells #[.int .u8 xk, .int .u8 xo, .int .u32 xv, .int .i64 xw, .string xn, .slice xA xs.length xc] 30)
            have hbg := Blk.new (W2) 30 #[.int .u8 xk, .int .u8 xo, .int .u32 xv, .int .i64 xw, .string xn, .slice xA xs.length xc]
            obtain ⟨g, hg⟩ : ∃ g, (W2).heap.size = g := ⟨_, rfl⟩
            have hgg : (W2).heap.size ≤ g := by omega
            rw [hg] at hbg
            replace hg := Lib.hid hg
            have hsRi := hS2.size
            have hLg : Lex.own eT ((W2).alloc (.cells #[.int .u8 xk, .int .u8 xo, .int .u32 xv, .int .i64 xw, .string xn, .slice xA xs.length xc] 30)) (s + 1) ⟨some ⟨g, 0, none⟩, 1⟩ [(Ex.mk ⟨xk, xo, xv, xw, xn⟩ (⟨xA, xc⟩ : Loc) xs)] := own_mk ⟨0, 0, 0, 0, ⟨#[]⟩⟩ [(Ex.mk ⟨xk, xo, xv, xw, xn⟩ (⟨xA, xc⟩ : Loc) xs)] hbg rfl (by omega) (by simp) ⟨(hLx.out.keep (only_of_below [] hBx) (by simp)).base_le hszx, trivial⟩
            have hdg : (Lex.fp ⟨some ⟨g, 0, none⟩, 1⟩ [(Ex.mk ⟨xk, xo, xv, xw, xn⟩ (⟨xA, xc⟩ : Loc) xs)]).Nodup := by
              show (g :: ((Ex.mk ⟨xk, xo, xv, xw, xn⟩ (⟨xA, xc⟩ : Loc) xs).fp ++ [])).Nodup
              rw [List.append_nil]
              exact List.nodup_cons.2 ⟨fun hm => by have := (hLx.out.ge g hm).2; omega, hdx.out⟩
            have hS3 := hS2.new hBx
            have hM3 := hM2.new (hS2.le hwB) hBx
            have hGg := Lib.hid hLg.ge
            have hpg : plains [(Ex.mk ⟨xk, xo, xv, xw, xn⟩ (⟨xA, xc⟩ : Loc) xs)] = [tx] := by simp only [plains, hpx.out]
            replace hpg := Lib.hid hpg
            replace hLg := Lib.hid hLg
            replace hdg := Lib.hid hdg
            clear hLx hdx hGx hpx
            clear hBx hbg hS2 hM2
            obtain ⟨⟨tt, r3⟩, hxt⟩ : ∃ p, stmtsM e.p 2 (dd) r2 = p := ⟨_, rfl⟩
            have hc := ihd 2 (by omega) B M cs d e r2 _ hM3 (hS3.le hwB)
            rw [hxt] at hc
            rw [hdd] at hc
            replace hxt := Lib.hid hxt
            replace hc := Lib.hid hc
            have hMl := hM3.nx.lt_size
            have hS3' := Lib.hid hS3
            have hM3' := Lib.hid hM3
            clear hS3 hM3
            have hszt : s < (((W2).alloc (.cells #[.int .u8 xk, .int .u8 xo, .int .u32 xv, .int .i64 xw, .string xn, .slice xA xs.length xc] 30))).heap.size := hS3'.out.size
            go_wp2_with fail
            refine hc.out.mono ?_
            rintro xx W4 ⟨tA, tc, ts, rfl, hpt, hLt, hdt, hM4, hO4⟩
            have hS4 := hS3'.out.step hO4
            have hGt := Lib.hid hLt.ge
            have hZ4 := hO4.size
            replace hLt := Lib.hid hLt
            replace hdt := Lib.hid hdt
            try dsimp only at hpt hM4
            replace hpt := Lib.hid hpt
            replace hLg := Lib.hid (hLg.out.keep hO4 (fun b hb hm => by rw [List.mem_singleton] at hm; have := (hGg.out b hb).1; have := hS3'.out.ml; have := hS3'.out.o; omega))
            clear hMl
            clear hc hS3' hM3' hO4
            obtain ⟨⟨tu, r4⟩, hxu⟩ : ∃ p, stmtsM e.p 1 (dd) r3 = p := ⟨_, rfl⟩
            have hc := ihd 1 (by omega) B M cs d e r3 _ hM4 (hS4.le hwB)
            rw [hxu] at hc
            rw [hdd] at hc
            replace hxu := Lib.hid hxu
            replace hc := Lib.hid hc
            have hMl := hM4.nx.lt_size
            have hS4' := Lib.hid hS4
            have hM4' := Lib.hid hM4
            clear hS4 hM4
            have hszu : s < (W4).heap.size := hS4'.out.size
            go_wp2_with fail
            refine hc.out.mono ?_
            rintro xx W5 ⟨uA, uc, us, rfl, hpu, hLu, hdu, hM5, hO5⟩
            have hS5 := hS4'.out.step hO5
            have hGu := Lib.hid hLu.ge
            have hZ5 := hO5.size
            replace hLu := Lib.hid hLu
            replace hdu := Lib.hid hdu
            try dsimp only at hpu hM5
            replace hpu := Lib.hid hpu
            replace hLg := Lib.hid (hLg.out.keep hO5 (fun b hb hm => by rw [List.mem_singleton] at hm; have := (hGg.out b hb).1; have := hS4'.out.ml; have := hS4'.out.o; omega))
            replace hLt := Lib.hid (hLt.out.keep hO5 (fun b hb hm => by rw [List.mem_singleton] at hm; have := (hGt.out b hb).1; have := hS4'.out.ml; have := hS4'.out.o; omega))
            clear hMl
            clear hc hS4' hM4' hO5
            have hL : ((St.mk ⟨6, ⟨#[]⟩, 0⟩ ⟨some ⟨g, 0, none⟩, 1⟩ ⟨tA, tc⟩ ⟨uA, uc⟩ [(Ex.mk ⟨xk, xo, xv, xw, xn⟩ (⟨xA, xc⟩ : Loc) xs)] ts us) : St Loc).own eT W5 (s + 1) := ⟨hLg.out, hLt.out.base_le hszt, hLu.out.base_le hszu⟩
            have hLd : ((St.mk ⟨6, ⟨#[]⟩, 0⟩ ⟨some ⟨g, 0, none⟩, 1⟩ ⟨tA, tc⟩ ⟨uA, uc⟩ [(Ex.mk ⟨xk, xo, xv, xw, xn⟩ (⟨xA, xc⟩ : Loc) xs)] ts us) : St Loc).fp.Nodup := by
              show (Lex.fp ⟨some ⟨g, 0, none⟩, 1⟩ [(Ex.mk ⟨xk, xo, xv, xw, xn⟩ (⟨xA, xc⟩ : Loc) xs)] ++ (Lst.fp ⟨tA, tc⟩ ts ++ Lst.fp ⟨uA, uc⟩ us)).Nodup
              refine nodup_at hdg.out (nodup_at hdt.out hdu.out (B := W4.heap.size) (fun b hb => (hGt.out b hb).2) (fun b hb => (hGu.out b hb).1)) (B := (((W2).alloc (.cells #[.int .u8 xk, .int .u8 xo, .int .u32 xv, .int .i64 xw, .string xn, .slice xA xs.length xc] 30))).heap.size) (fun b hb => (hGg.out b hb).2) (fun b hb => ?_)
              rcases List.mem_append.1 hb with hb | hb
              · exact (hGt.out b hb).1
              · exact Nat.le_trans hZ4 (hGu.out b hb).1
            have hb9 := hS5.x
            have hbl := hb9.lt
            obtain ⟨hbf, hM9, hO9, hL9⟩ := stmt_end (w := wr) (St.mk ⟨6, ⟨#[]⟩, 0⟩ ⟨some ⟨g, 0, none⟩, 1⟩ ⟨tA, tc⟩ ⟨uA, uc⟩ [(Ex.mk ⟨xk, xo, xv, xw, xn⟩ (⟨xA, xc⟩ : Loc) xs)] ts us) hS5.x hM5 hS5.on hwB hS5.o hL
            simp only [St.cells, eT, List.length_cons, List.length_nil, Nat.reduceAdd] at hbf hM9 hO9 hL9
            generalize hW9 : World.setCells _ s 0 _ = W9 at hbf hM9 hO9 hL9
            replace hW9 := Lib.hid hW9
            replace hbf := Lib.hid hbf
            replace hM9 := Lib.hid hM9
            replace hO9 := Lib.hid hO9
            replace hL9 := Lib.hid hL9
            replace hLd := Lib.hid hLd
            clear hL
            try simp only []
            repeat ((fail_if_success (with_reducible refine wpList_store_at 51 (.tmp 9) (.tmp 102) s 0 #[.int .u8 6, .string ⟨#[]⟩, .slice (some ⟨g, 0, none⟩) 1 1, .int .i64 0, .slice tA ts.length tc, .slice uA us.length uc] ?_ ?_ ?_ ?_ ?_ ?_)); (first | go_skip | go_guarded | go_step | go_upon | go_simp))
            try rw [hg.out]
            refine wpList_store_at 51 (.tmp 9) (.tmp 102) s 0 #[.int .u8 6, .string ⟨#[]⟩, .slice (some ⟨g, 0, none⟩) 1 1, .int .i64 0, .slice tA ts.length tc, .slice uA us.length uc] rfl rfl (there_blk_at hb9 (by simp)) (by kernel_rfl) (by simp [Value.oneCell']) ?_
            try simp only [Act.put, List.setIfInBounds_toArray, List.set_cons_zero, List.set_cons_succ]
            rw [hW9.out]
            go_wp2_with fail
            go_meet
            refine ⟨St.mk ⟨6, ⟨#[]⟩, 0⟩ ⟨some ⟨g, 0, none⟩, 1⟩ ⟨tA, tc⟩ ⟨uA, uc⟩ [(Ex.mk ⟨xk, xo, xv, xw, xn⟩ (⟨xA, xc⟩ : Loc) xs)] ts us, ?_, hbf.out, hL9.out, hLd.out, ?_, hO9.out⟩
            · rw [hp1.out, oneM_if hxk.out hq11.out hq13.out hxx.out hxt.out hxu.out]
              show St.mk _ () () () (plains [(Ex.mk ⟨xk, xo, xv, xw, xn⟩ (⟨xA, xc⟩ : Loc) xs)]) (plainS ts) (plainS us) = _
              rw [hpg.out, hpt.out, hpu.out]
              rfl
            · rw [hp1.out, oneM_if hxk.out hq11.out hq13.out hxx.out hxt.out hxu.out]; exact hM9.out
        by_cases hk13e : q = 13
        · obtain rfl : q = 13 := hk13e
          obtain rfl : qI = 13 := by simpa using hqI'.out
          clear hk13
          by_cases hdp : deep = 0
          · have bz : decide (zI > 0) = false := by have := hzI'.out; simp; omega
            have ho : ¬ (13 < 13 ∧ 0 < deep) := by omega
            have ho2 : ¬ (13 = 13 ∧ 0 < deep) := by omega
            have ho3 : ¬ (13 = 14 ∧ e.p.param = false ∧ e.p.hasP = true) := by omega
            replace ho := Lib.hid ho
            replace ho2 := Lib.hid ho2
            replace ho3 := Lib.hid ho3
            replace hk11 := Lib.hid hk11
            replace hdp := Lib.hid hdp
            obtain ⟨⟨tx, r2⟩, hxx⟩ : ∃ p, leafM e.p (1) 0 r1 = p := ⟨_, rfl⟩
            have hc : Calls Try.prog 68 #[.pointer (some ⟨M, 0, none⟩), .int .i64 1, .int .i64 0] W1 (EPost B W1 M cs d e (leafM e.p (1) 0 r1)) := (leaf_ok (1) 0 (by omega) (by omega) (by omega) hM1 (hS1.le hwB)).mono fun x W' ⟨⟨xk, xo, xv, xw, xn⟩, h1, h2, h3, h4⟩ => ⟨xk, xo, xv, xw, xn, none, 0, [], h1, h2, ⟨World.ownsRow_nil _ _ _ _, trivial⟩, List.nodup_nil, h3, h4⟩
            rw [hxx] at hc
            replace hxx := Lib.hid hxx
            replace hc := Lib.hid hc
            have hMl := hM1.nx.lt_size
            have hS1' := Lib.hid hS1
            have hM1' := Lib.hid hM1
            clear hS1 hM1
            have hszx : s < (W1).heap.size := hS1'.out.size
            go_wp2_with fail
            refine hc.out.mono ?_
            rintro xx W2 ⟨xk, xo, xv, xw, xn, xA, xc, xs, rfl, hpx, hLx, hdx, hM2, hO2⟩
            have hS2 := hS1'.out.step hO2
            have hGx := Lib.hid hLx.ge
            have hZ2 := hO2.size
            replace hLx := Lib.hid hLx
            replace hdx := Lib.hid hdx
            try dsimp only at hpx hM2
            replace hpx := Lib.hid hpx
            clear hMl
            clear hc hS1' hM1' hO2
            obtain ⟨⟨ty, r3⟩, hxy⟩ : ∃ p, leafM e.p (e.p.w) 0 r2 = p := ⟨_, rfl⟩
            have hc : Calls Try.prog 68 #[.pointer (some ⟨M, 0, none⟩), .int .i64 (e.p.w : Int), .int .i64 0] W2 (EPost B W2 M cs d e (leafM e.p (e.p.w) 0 r2)) := (leaf_ok (e.p.w) 0 (hw1) (hw3) (by omega) hM2 (hS2.le hwB)).mono fun x W' ⟨⟨xk, xo, xv, xw, xn⟩, h1, h2, h3, h4⟩ => ⟨xk, xo, xv, xw, xn, none, 0, [], h1, h2, ⟨World.ownsRow_nil _ _ _ _, trivial⟩, List.nodup_nil, h3, h4⟩
            rw [hxy] at hc
            replace hxy := Lib.hid hxy
            replace hc := Lib.hid hc
            have hMl := hM2.nx.lt_size
            have hS2' := Lib.hid hS2
            have hM2' := Lib.hid hM2
            clear hS2 hM2
            have hszy : s < (W2).heap.size := hS2'.out.size
            go_wp2_with fail
            refine hc.out.mono ?_
            rintro xx W3 ⟨yk, yo, yv, yw, yn, yA, yc, ys, rfl, hpy, hLy, hdy, hM3, hO3⟩
            have hS3 := hS2'.out.step hO3
            have hGy := Lib.hid hLy.ge
            have hZ3 := hO3.size
            replace hLy := Lib.hid hLy
            replace hdy := Lib.hid hdy
            try dsimp only at hpy hM3
            replace hpy := Lib.hid hpy
            replace hLx := Lib.hid (hLx.out.keep hO3 (fun b hb hm => by rw [List.mem_singleton] at hm; have := (hGx.out b hb).1; have := hS2'.out.ml; have := hS2'.out.o; omega))
            clear hMl
            clear hc hS2' hM2' hO3
            have hBx := (Below.refl _ W3).alloc (Nat.le_refl _) (.cells #[.int .u8 xk, .int .u8 xo, .int .u32 xv, .int .i64 xw, .string xn, .slice xA xs.length xc, .int .u8 yk, .int .u8 yo, .int .u32 yv, .int .i64 yw, .string yn, .slice yA ys.length yc] 30)
            have hbg := Blk.new (W3) 30 #[.int .u8 xk, .int .u8 xo, .int .u32 xv, .int .i64 xw, .string xn, .slice xA xs.length xc, .int .u8 yk, .int .u8 yo, .int .u32 yv, .int .i64 yw, .string yn, .slice yA ys.length yc]
            obtain ⟨g, hg⟩ : ∃ g, (W3).heap.size = g := ⟨_, rfl⟩
            have hgg : (W3).heap.size ≤ g := by omega
            rw [hg] at hbg
            replace hg := Lib.hid hg
            have hsRi := hS3.size
            have hLg : Lex.own eT ((W3).alloc (.cells #[.int .u8 xk, .int .u8 xo, .int .u32 xv, .int .i64 xw, .string xn, .slice xA xs.length xc, .int .u8 yk, .int .u8 yo, .int .u32 yv, .int .i64 yw, .string yn, .slice yA ys.length yc] 30)) (s + 1) ⟨some ⟨g, 0, none⟩, 2⟩ [(Ex.mk ⟨xk, xo, xv, xw, xn⟩ (⟨xA, xc⟩ : Loc) xs), (Ex.mk ⟨yk, yo, yv, yw, yn⟩ (⟨yA, yc⟩ : Loc) ys)] := own_mk ⟨0, 0, 0, 0, ⟨#[]⟩⟩ [(Ex.mk ⟨xk, xo, xv, xw, xn⟩ (⟨xA, xc⟩ : Loc) xs), (Ex.mk ⟨yk, yo, yv, yw, yn⟩ (⟨yA, yc⟩ : Loc) ys)] hbg rfl (by omega) (by simp) ⟨(hLx.out.keep (only_of_below [] hBx) (by simp)).base_le hszx, (hLy.out.keep (only_of_below [] hBx) (by simp)).base_le hszy, trivial⟩
            have hdg : (Lex.fp ⟨some ⟨g, 0, none⟩, 2⟩ [(Ex.mk ⟨xk, xo, xv, xw, xn⟩ (⟨xA, xc⟩ : Loc) xs), (Ex.mk ⟨yk, yo, yv, yw, yn⟩ (⟨yA, yc⟩ : Loc) ys)]).Nodup := by
              show (g :: ((Ex.mk ⟨xk, xo, xv, xw, xn⟩ (⟨xA, xc⟩ : Loc) xs).fp ++ ((Ex.mk ⟨yk, yo, yv, yw, yn⟩ (⟨yA, yc⟩ : Loc) ys).fp ++ []))).Nodup
              rw [List.append_nil]
              refine List.nodup_cons.2 ⟨fun hm => ?_, ?_⟩
              · simp only [List.mem_append] at hm
                rcases hm with hm | hm
                · have := (hLx.out.ge g hm).2; omega
                · have := (hLy.out.ge g hm).2; omega
              · exact nodup_at hdx.out hdy.out (B := W2.heap.size) (fun b hb => (hGx.out b hb).2) (fun b hb => (hGy.out b hb).1)
            have hS4 := hS3.new hBx
            have hM4 := hM3.new (hS3.le hwB) hBx
            have hGg := Lib.hid hLg.ge
            have hpg : plains [(Ex.mk ⟨xk, xo, xv, xw, xn⟩ (⟨xA, xc⟩ : Loc) xs), (Ex.mk ⟨yk, yo, yv, yw, yn⟩ (⟨yA, yc⟩ : Loc) ys)] = [tx, ty] := by simp only [plains, hpx.out, hpy.out]
            replace hpg := Lib.hid hpg
            replace hLg := Lib.hid hLg
            replace hdg := Lib.hid hdg
            clear hLx hdx hGx hpx
            clear hLy hdy hGy hpy
            clear hBx hbg hS3 hM3
            have hL : ((St.mk ⟨3, ⟨#[]⟩, 0⟩ ⟨some ⟨g, 0, none⟩, 2⟩ ⟨none, 0⟩ ⟨none, 0⟩ [(Ex.mk ⟨xk, xo, xv, xw, xn⟩ (⟨xA, xc⟩ : Loc) xs), (Ex.mk ⟨yk, yo, yv, yw, yn⟩ (⟨yA, yc⟩ : Loc) ys)] [] []) : St Loc).own eT ((W3).alloc (.cells #[.int .u8 xk, .int .u8 xo, .int .u32 xv, .int .i64 xw, .string xn, .slice xA xs.length xc, .int .u8 yk, .int .u8 yo, .int .u32 yv, .int .i64 yw, .string yn, .slice yA ys.length yc] 30)) (s + 1) := ⟨hLg.out, ⟨World.ownsRow_nil _ _ _ _, trivial⟩, ⟨World.ownsRow_nil _ _ _ _, trivial⟩⟩
            have hLd : ((St.mk ⟨3, ⟨#[]⟩, 0⟩ ⟨some ⟨g, 0, none⟩, 2⟩ ⟨none, 0⟩ ⟨none, 0⟩ [(Ex.mk ⟨xk, xo, xv, xw, xn⟩ (⟨xA, xc⟩ : Loc) xs), (Ex.mk ⟨yk, yo, yv, yw, yn⟩ (⟨yA, yc⟩ : Loc) ys)] [] []) : St Loc).fp.Nodup := by
              show (Lex.fp ⟨some ⟨g, 0, none⟩, 2⟩ [(Ex.mk ⟨xk, xo, xv, xw, xn⟩ (⟨xA, xc⟩ : Loc) xs), (Ex.mk ⟨yk, yo, yv, yw, yn⟩ (⟨yA, yc⟩ : Loc) ys)] ++ (([] : List Nat) ++ ([] : List Nat))).Nodup
              simp only [List.append_nil, List.nil_append]
              exact hdg.out
            have hb9 := hS4.x
            have hbl := hb9.lt
            obtain ⟨hbf, hM9, hO9, hL9⟩ := stmt_end (w := wr) (St.mk ⟨3, ⟨#[]⟩, 0⟩ ⟨some ⟨g, 0, none⟩, 2⟩ ⟨none, 0⟩ ⟨none, 0⟩ [(Ex.mk ⟨xk, xo, xv, xw, xn⟩ (⟨xA, xc⟩ : Loc) xs), (Ex.mk ⟨yk, yo, yv, yw, yn⟩ (⟨yA, yc⟩ : Loc) ys)] [] []) hS4.x hM4 hS4.on hwB hS4.o hL
            simp only [St.cells, eT, List.length_cons, List.length_nil, Nat.reduceAdd] at hbf hM9 hO9 hL9
            generalize hW9 : World.setCells _ s 0 _ = W9 at hbf hM9 hO9 hL9
            replace hW9 := Lib.hid hW9
            replace hbf := Lib.hid hbf
            replace hM9 := Lib.hid hM9
            replace hO9 := Lib.hid hO9
            replace hL9 := Lib.hid hL9
            replace hLd := Lib.hid hLd
            clear hL
            try simp only []
            repeat ((fail_if_success (with_reducible refine wpList_store_at 51 (.tmp 9) (.tmp 33) s 0 #[.int .u8 3, .string ⟨#[]⟩, .slice (some ⟨g, 0, none⟩) 2 2, .int .i64 0, .slice none 0 0, .slice none 0 0] ?_ ?_ ?_ ?_ ?_ ?_)); (first | go_skip | go_guarded | go_step | go_upon | go_simp))
            try rw [hg.out]
            refine wpList_store_at 51 (.tmp 9) (.tmp 33) s 0 #[.int .u8 3, .string ⟨#[]⟩, .slice (some ⟨g, 0, none⟩) 2 2, .int .i64 0, .slice none 0 0, .slice none 0 0] rfl rfl (there_blk_at hb9 (by simp)) (by kernel_rfl) (by simp [Value.oneCell']) ?_
            try simp only [Act.put, List.setIfInBounds_toArray, List.set_cons_zero, List.set_cons_succ]
            rw [hW9.out]
            go_wp2_with fail
            go_meet
            refine ⟨St.mk ⟨3, ⟨#[]⟩, 0⟩ ⟨some ⟨g, 0, none⟩, 2⟩ ⟨none, 0⟩ ⟨none, 0⟩ [(Ex.mk ⟨xk, xo, xv, xw, xn⟩ (⟨xA, xc⟩ : Loc) xs), (Ex.mk ⟨yk, yo, yv, yw, yn⟩ (⟨yA, yc⟩ : Loc) ys)] [] [], ?_, hbf.out, hL9.out, hLd.out, ?_, hO9.out⟩
            · rw [hp1.out, oneM_other (deep := deep) hxk.out hk11.out ho.out (by first | exact ho2.out | exact fun q => ho2.out ⟨trivial, q.2⟩) (by first | exact ho3.out | exact fun q => ho3.out ⟨trivial, q.2⟩) hxx.out hxy.out]
              show St.mk _ () () () (plains [(Ex.mk ⟨xk, xo, xv, xw, xn⟩ (⟨xA, xc⟩ : Loc) xs), (Ex.mk ⟨yk, yo, yv, yw, yn⟩ (⟨yA, yc⟩ : Loc) ys)]) (plainS []) (plainS []) = _
              rw [hpg.out]
              rfl
            · rw [hp1.out, oneM_other (deep := deep) hxk.out hk11.out ho.out (by first | exact ho2.out | exact fun q => ho2.out ⟨trivial, q.2⟩) (by first | exact ho3.out | exact fun q => ho3.out ⟨trivial, q.2⟩) hxx.out hxy.out]; exact hM9.out
          · obtain ⟨dd, rfl⟩ : ∃ dd, deep = dd + 1 := ⟨deep - 1, by omega⟩
            have bz : decide (zI > 0) = true := by have := hzI'.out; simp; omega
            have ihz := ih0.out (by omega)
            clear hdp
            obtain ⟨⟨tt, r2⟩, hxt⟩ : ∃ p, stmtsM e.p 2 (0) r1 = p := ⟨_, rfl⟩
            have hc := ihz 2 (by omega) B M cs d e r1 _ hM1 (hS1.le hwB)
            rw [hxt] at hc
            replace hxt := Lib.hid hxt
            replace hc := Lib.hid hc
            have hMl := hM1.nx.lt_size
            have hS1' := Lib.hid hS1
            have hM1' := Lib.hid hM1
            clear hS1 hM1
            have hszt : s < (W1).heap.size := hS1'.out.size
            go_wp2_with fail
            refine hc.out.mono ?_
            rintro xx W2 ⟨tA, tc, ts, rfl, hpt, hLt, hdt, hM2, hO2⟩
            have hS2 := hS1'.out.step hO2
            have hGt := Lib.hid hLt.ge
            have hZ2 := hO2.size
            replace hLt := Lib.hid hLt
            replace hdt := Lib.hid hdt
            try dsimp only at hpt hM2
            replace hpt := Lib.hid hpt
            clear hMl
            clear hc hS1' hM1' hO2
            have htl : ts.length ≤ 2 := by
              have h1 := stmtsM_len e.p 2 0 r1
              rw [hxt.out] at h1
              dsimp only at h1
              rw [← hpt.out, plainS_map, List.length_map] at h1
              exact h1
            have hMl := hM2.nx.lt_size
            have hS2' := Lib.hid hS2
            have hM2' := Lib.hid hM2
            clear hS2 hM2
            go_wp2_with fail
            refine (name_ok _ W2).mono ?_
            rintro xx W3 ⟨rfl, hB⟩
            have hS3 := hS2'.out.new hB
            have hM3 := hM2'.out.new (hS2'.out.le hwB) hB
            replace hLt := Lib.hid (hLt.out.keep (only_of_below [] hB) (by simp))
            clear hMl
            have hZ3 := hB.size
            clear hB hS2' hM2'
            have hMl := hM3.nx.lt_size
            have hS3' := Lib.hid hS3
            have hM3' := Lib.hid hM3
            clear hS3 hM3
            go_wp2_with fail
            refine (num_ok _ _ W3).mono ?_
            rintro xx W4 ⟨rfl, hB⟩
            have hS4 := hS3'.out.new hB
            have hM4 := hM3'.out.new (hS3'.out.le hwB) hB
            replace hLt := Lib.hid (hLt.out.keep (only_of_below [] hB) (by simp))
            clear hMl
            have hZ4 := hB.size
            clear hB hS3' hM3'
            have hMl := hM4.nx.lt_size
            have hS4' := Lib.hid hS4
            have hM4' := Lib.hid hM4
            clear hS4 hM4
            go_wp2_with fail
            refine (bin_ok _ _ _ _ _ _ _ _ _ _ _ _ _ (by simp [Value.oneCell']) (by simp [Value.oneCell']) W4).mono ?_
            rintro xx W5 ⟨g1, rfl, hbg, hgg, hB⟩
            have hS5 := hS4'.out.new hB
            have hM5 := hM4'.out.new (hS4'.out.le hwB) hB
            replace hLt := Lib.hid (hLt.out.keep (only_of_below [] hB) (by simp))
            clear hMl
            have hZ5 := hB.size
            clear hB hS4' hM4'
            have hBE := (Below.refl _ W5).alloc (Nat.le_refl _) (.cells #[.int .u8 6, .int .u8 3, .int .u32 0, .int .i64 0, .string ⟨#[]⟩, .slice (some ⟨g1, 0, none⟩) 2 2] 30)
            have hbE := Blk.new W5 30 #[.int .u8 6, .int .u8 3, .int .u32 0, .int .i64 0, .string ⟨#[]⟩, .slice (some ⟨g1, 0, none⟩) 2 2]
            have hBS := (Below.refl _ (W5.alloc (.cells #[.int .u8 6, .int .u8 3, .int .u32 0, .int .i64 0, .string ⟨#[]⟩, .slice (some ⟨g1, 0, none⟩) 2 2] 30))).alloc (Nat.le_refl _) (.cells #[.int .u8 1, .string ⟨#[99]⟩, .slice (some ⟨W5.heap.size, 0, none⟩) 1 1, .int .i64 0, .slice none 0 0, .slice none 0 0] 51)
            have hBes := below_and hBE hBS
            have hgg' : W4.heap.size ≤ W5.heap.size := hZ5
            have hg1l : g1 < W5.heap.size := hbg.lt
            have hC1 := ((xB_own 3 1 hbg hgg).base_le (base' := W1.heap.size) (by omega)).keep (only_of_below [] hBes) (by simp)
            have hC2 := stC_own hC1 (hbE.below hBS hbE.lt) (by omega)
            have hrd := Reads.of_own (World.ownsRow_lit (base := (W5.alloc (.cells #[.int .u8 6, .int .u8 3, .int .u32 0, .int .i64 0, .string ⟨#[]⟩, .slice (some ⟨g1, 0, none⟩) 2 2] 30)).heap.size) (e := 51) (size := 6) (W5.alloc (.cells #[.int .u8 6, .int .u8 3, .int .u32 0, .int .i64 0, .string ⟨#[]⟩, .slice (some ⟨g1, 0, none⟩) 2 2] 30)) #[.int .u8 1, .string ⟨#[99]⟩, .slice (some ⟨W5.heap.size, 0, none⟩) 1 1, .int .i64 0, .slice none 0 0, .slice none 0 0] 1 (Nat.le_refl _) (by simp [maxLen]) rfl)
            have hT6 := hLt.out.keep (only_of_below [] hBes) (by simp)
            have hS6 := hS5.new hBes
            have hM6 := hM5.new (hS5.le hwB) hBes
            have hsw : W1.heap.size ≤ ((W5.alloc (.cells #[.int .u8 6, .int .u8 3, .int .u32 0, .int .i64 0, .string ⟨#[]⟩, .slice (some ⟨g1, 0, none⟩) 2 2] 30)).alloc (.cells #[.int .u8 1, .string ⟨#[99]⟩, .slice (some ⟨W5.heap.size, 0, none⟩) 1 1, .int .i64 0, .slice none 0 0, .slice none 0 0] 51)).heap.size := by have := hBes.size; omega
            have hdj : ∀ b ∈ Lst.fp ⟨tA, tc⟩ ts, b ∉ (stC g1 W5.heap.size).fp := fun b hb hm => by
              have h1 := (hGt.out b hb).2
              rw [stC_fp] at hm
              simp only [List.mem_cons, List.not_mem_nil, or_false] at hm
              omega
            have hgM : M < wr.heap.size := hS5.ml
            have hrowT := hT6.1
            dsimp only at hrowT
            have hSx := hS6.x
            replace hC2 := Lib.hid hC2
            replace hT6 := Lib.hid hT6
            replace hM6 := Lib.hid hM6
            replace hS6 := Lib.hid hS6
            replace hdj := Lib.hid hdj
            have hw7 := hS5.o
            clear hLt hBE hbE hBS hBes hC1 hbg hS5 hM5 hSx
            simp only [World.size_alloc] at hrd
            go_upto_region 23 with (at_builtin; refine wpList_append_any _ rfl (.tmp 111) (.tmp 117) 33 rfl W1.heap.size 51 i0 _ 6 104 Try.underlying33 hi.out hz0.out hz1.out hz2.out rfl (by omega) (.slice tA ts.length tc) ts.length (cellsS eT ts) rfl hrowT _ (some ⟨W5.heap.size + 1, 0, none⟩) 1 1 ((stC g1 W5.heap.size).cells eT) rfl hrd ((stC g1 W5.heap.size).cells_one eT) (by simp only [maxLen]; omega) (by omega) hsw ?_; intro v7 W7 hown7 hg7 hb7)
            obtain ⟨vA, vc, rfl, hLv, hdv⟩ := append_st (base := W1.heap.size) hT6.out hdt.out hC2.out (by rw [stC_fp]; simp; omega) hdj.out hown7 hg7 hb7
            have hrb : ∀ b, (Value.slice tA ts.length tc).ownBlock = some b → W1.heap.size ≤ b := fun b hb => (hT6.out.ge b (List.mem_append_left _ ((own_fp ⟨tA, tc⟩ ts.length b).2 hb))).1
            have hS7 : SL wr M s W7 := ⟨hS6.out.x.grown hg7 (fun e => by have := hrb s e.symm; omega), hS6.out.on.grown hg7 (fun b hb => .inr (by have := hrb b hb; omega)), hgM, hw7⟩
            have hM7 := hM6.out.below ((Below.refl B _).grown hg7 (by omega) (fun b hb => by have := hrb b hb; omega))
            obtain ⟨vs, hvs⟩ : ∃ vs, vs = ts ++ [stC g1 W5.heap.size] := ⟨_, rfl⟩
            have hvl : ts.length + 1 = vs.length := by rw [hvs, List.length_append]; rfl
            rw [← hvs] at hLv hdv
            rw [hvl]
            have hpv : plainS vs = tt ++ [stM 1 sC [binE 3 (nameE sC) (numE 1 2)] 0 [] []] := by rw [hvs, plainS_map, List.map_append, ← plainS_map, hpt.out, List.map_cons, List.map_nil, stC_plain]
            have hGv := Lib.hid hLv.ge
            have hszv := hszt
            replace hLv := Lib.hid hLv
            replace hdv := Lib.hid hdv
            replace hpv := Lib.hid hpv
            replace hvs := Lib.hid hvs
            replace hvl := Lib.hid hvl
            clear hown7 hg7 hb7 hrb hT6 hC2 hM6 hS6 hdj hrowT hrd hGt hdt
            obtain ⟨⟨a, r3⟩, hxa⟩ : ∃ p, nx 3 r2 = p := ⟨_, rfl⟩
            have hlta := nx_lt (n := 3) (by omega) r2
            have hc := nextM 3 (by omega) (by omega) hM7 (hS7.le hwB)
            rw [hxa] at hc hlta
            dsimp only at hc hlta
            replace hxa := Lib.hid hxa
            replace hc := Lib.hid hc
            have hMl := hM7.nx.lt_size
            have hS7' := Lib.hid hS7
            have hM7' := Lib.hid hM7
            clear hS7 hM7
            go_wp2_with fail
            refine hc.out.mono ?_
            rintro xx W8 ⟨rfl, hM8, hO8⟩
            have hS8 := hS7'.out.step hO8
            replace hLv := Lib.hid (hLv.out.keep hO8 (fun b hb hm => by rw [List.mem_singleton] at hm; have := (hGv.out b hb).1; have := hS7'.out.ml; have := hS7'.out.o; omega))
            clear hMl
            clear hc hS7' hM7' hO8
            have a0 : 0 ≤ (a : Int) := by omega
            have hMl := hM8.nx.lt_size
            have hS8' := Lib.hid hS8
            have hM8' := Lib.hid hM8
            clear hS8 hM8
            go_wp2_with fail
            refine (name_ok _ W8).mono ?_
            rintro xx W9 ⟨rfl, hB⟩
            have hS9 := hS8'.out.new hB
            have hM9 := hM8'.out.new (hS8'.out.le hwB) hB
            replace hLv := Lib.hid (hLv.out.keep (only_of_below [] hB) (by simp))
            clear hMl
            have hZ9 := hB.size
            clear hB hS8' hM8'
            obtain ⟨⟨b, r4⟩, hxb⟩ : ∃ p, nx 3 r3 = p := ⟨_, rfl⟩
            have hltb := nx_lt (n := 3) (by omega) r3
            have hc := nextM 3 (by omega) (by omega) hM9 (hS9.le hwB)
            rw [hxb] at hc hltb
            dsimp only at hc hltb
            replace hxb := Lib.hid hxb
            replace hc := Lib.hid hc
            have hMl := hM9.nx.lt_size
            have hS9' := Lib.hid hS9
            have hM9' := Lib.hid hM9
            clear hS9 hM9
            go_wp2_with fail
            refine hc.out.mono ?_
            rintro xx W10 ⟨rfl, hM10, hO10⟩
            have hS10 := hS9'.out.step hO10
            replace hLv := Lib.hid (hLv.out.keep hO10 (fun b hb hm => by rw [List.mem_singleton] at hm; have := (hGv.out b hb).1; have := hS9'.out.ml; have := hS9'.out.o; omega))
            clear hMl
            clear hc hS9' hM9' hO10
            have b0 : 0 ≤ (b : Int) := by omega
            have hwb : IntKind.wrap .u32 (1 + (b : Int)) = 1 + (b : Int) := by simp [IntKind.wrap, IntKind.bits, IntKind.signed]; omega
            have hMl := hM10.nx.lt_size
            have hS10' := Lib.hid hS10
            have hM10' := Lib.hid hM10
            clear hS10 hM10
            go_wp2_with fail
            refine (num_ok _ _ W10).mono ?_
            rintro xx W11 ⟨rfl, hB⟩
            have hS11 := hS10'.out.new hB
            have hM11 := hM10'.out.new (hS10'.out.le hwB) hB
            replace hLv := Lib.hid (hLv.out.keep (only_of_below [] hB) (by simp))
            clear hMl
            have hZ11 := hB.size
            clear hB hS10' hM10'
            have hszz : s < W11.heap.size := hS11.size
            have hvz : ∀ q ∈ Lst.fp ⟨vA, vc⟩ vs, q < W11.heap.size := fun q hq => by have := (hLv.out.ge q hq).2; exact this
            have hMl := hM11.nx.lt_size
            have hS11' := Lib.hid hS11
            have hM11' := Lib.hid hM11
            clear hS11 hM11
            go_wp2_with fail
            refine (bin_ok _ _ _ _ _ _ _ _ _ _ _ _ _ (by simp [Value.oneCell']) (by simp [Value.oneCell']) W11).mono ?_
            rintro xx W12 ⟨g2, rfl, hbz, hgz, hB⟩
            have hS12 := hS11'.out.new hB
            have hM12 := hM11'.out.new (hS11'.out.le hwB) hB
            replace hLv := Lib.hid (hLv.out.keep (only_of_below [] hB) (by simp))
            clear hMl
            have hZ12 := hB.size
            clear hB hS11' hM11'
            have hLz := Lib.hid (xB_own 15 (1 + (b : Int)) hbz hgz)
            have hdz : Hid (xB 15 g2 (1 + (b : Int))).fp.Nodup := Lib.hid (by rw [xB_fp]; simp)
            have hGz := Lib.hid hLz.out.ge
            have hpz : Hid ((xB 15 g2 (1 + (b : Int))).plain = binE 15 (nameE sC) (numE ((1 + b : Nat) : Int) 2)) := Lib.hid (by have := xB_plain 15 (1 + b) g2; rw [Int.natCast_add] at this; exact this)
            have hg2l := hbz.lt
            clear hbz
            have hBx := (Below.refl _ W12).alloc (Nat.le_refl _) (.cells #[.int .u8 6, .int .u8 15, .int .u32 0, .int .i64 0, .string ⟨#[]⟩, .slice (some ⟨g2, 0, none⟩) 2 2] 30)
            have hbg := Blk.new (W12) 30 #[.int .u8 6, .int .u8 15, .int .u32 0, .int .i64 0, .string ⟨#[]⟩, .slice (some ⟨g2, 0, none⟩) 2 2]
            obtain ⟨g, hg⟩ : ∃ g, (W12).heap.size = g := ⟨_, rfl⟩
            have hgg : (W12).heap.size ≤ g := by omega
            rw [hg] at hbg
            replace hg := Lib.hid hg
            have hsRi := hS12.size
            have hLg : Lex.own eT ((W12).alloc (.cells #[.int .u8 6, .int .u8 15, .int .u32 0, .int .i64 0, .string ⟨#[]⟩, .slice (some ⟨g2, 0, none⟩) 2 2] 30)) (s + 1) ⟨some ⟨g, 0, none⟩, 1⟩ [(xB 15 g2 (1 + (b : Int)))] := own_mk ⟨0, 0, 0, 0, ⟨#[]⟩⟩ [(xB 15 g2 (1 + (b : Int)))] hbg rfl (by omega) (by simp) ⟨(hLz.out.keep (only_of_below [] hBx) (by simp)).base_le hszz, trivial⟩
            have hdg : (Lex.fp ⟨some ⟨g, 0, none⟩, 1⟩ [(xB 15 g2 (1 + (b : Int)))]).Nodup := by
              show (g :: ((xB 15 g2 (1 + (b : Int))).fp ++ [])).Nodup
              rw [List.append_nil]
              exact List.nodup_cons.2 ⟨fun hm => by have := (hLz.out.ge g hm).2; omega, hdz.out⟩
            have hS13 := hS12.new hBx
            have hM13 := hM12.new (hS12.le hwB) hBx
            have hGg := Lib.hid hLg.ge
            have hpg : plains [(xB 15 g2 (1 + (b : Int)))] = [binE 15 (nameE sC) (numE ((1 + b : Nat) : Int) 2)] := by simp only [plains, hpz.out]
            replace hpg := Lib.hid hpg
            replace hLg := Lib.hid hLg
            replace hdg := Lib.hid hdg
            replace hLv := Lib.hid (hLv.out.keep (only_of_below [] hBx) (by simp))
            clear hLz hdz hGz hpz
            clear hBx hbg hS12 hM12
            have hL : ((St.mk ⟨7, ⟨#[]⟩, (1 + (a : Int))⟩ ⟨some ⟨g, 0, none⟩, 1⟩ ⟨vA, vc⟩ ⟨none, 0⟩ [(xB 15 g2 (1 + (b : Int)))] vs []) : St Loc).own eT ((W12).alloc (.cells #[.int .u8 6, .int .u8 15, .int .u32 0, .int .i64 0, .string ⟨#[]⟩, .slice (some ⟨g2, 0, none⟩) 2 2] 30)) (s + 1) := ⟨hLg.out, hLv.out.base_le hszv, ⟨World.ownsRow_nil _ _ _ _, trivial⟩⟩
            have hLd : ((St.mk ⟨7, ⟨#[]⟩, (1 + (a : Int))⟩ ⟨some ⟨g, 0, none⟩, 1⟩ ⟨vA, vc⟩ ⟨none, 0⟩ [(xB 15 g2 (1 + (b : Int)))] vs []) : St Loc).fp.Nodup := by
              show (Lex.fp ⟨some ⟨g, 0, none⟩, 1⟩ [(xB 15 g2 (1 + (b : Int)))] ++ (Lst.fp ⟨vA, vc⟩ vs ++ ([] : List Nat))).Nodup
              simp only [List.append_nil]
              refine List.nodup_append.2 ⟨hdg.out, hdv.out, fun q hq q' hq' e => ?_⟩
              have h1 := hvz q' hq'
              rcases List.mem_cons.1 (show q ∈ g :: ((xB 15 g2 (1 + (b : Int))).fp ++ []) from hq) with hq | hq
              · omega
              · rw [xB_fp] at hq
                simp at hq
                omega
            have hb9 := hS13.x
            have hbl := hb9.lt
            obtain ⟨hbf, hM9, hO9, hL9⟩ := stmt_end (w := wr) (St.mk ⟨7, ⟨#[]⟩, (1 + (a : Int))⟩ ⟨some ⟨g, 0, none⟩, 1⟩ ⟨vA, vc⟩ ⟨none, 0⟩ [(xB 15 g2 (1 + (b : Int)))] vs []) hS13.x hM13 hS13.on hwB hS13.o hL
            simp only [St.cells, eT, List.length_cons, List.length_nil, Nat.reduceAdd] at hbf hM9 hO9 hL9
            generalize hW9 : World.setCells _ s 0 _ = W9 at hbf hM9 hO9 hL9
            replace hW9 := Lib.hid hW9
            replace hbf := Lib.hid hbf
            replace hM9 := Lib.hid hM9
            replace hO9 := Lib.hid hO9
            replace hL9 := Lib.hid hL9
            replace hLd := Lib.hid hLd
            clear hL
            try simp only []
            repeat ((fail_if_success (with_reducible refine wpList_store_at 51 (.tmp 9) (.tmp 131) s 0 #[.int .u8 7, .string ⟨#[]⟩, .slice (some ⟨g, 0, none⟩) 1 1, .int .i64 (1 + (a : Int)), .slice vA vs.length vc, .slice none 0 0] ?_ ?_ ?_ ?_ ?_ ?_)); (first | go_skip | go_guarded | go_step | go_upon | go_simp))
            try rw [hg.out]
            refine wpList_store_at 51 (.tmp 9) (.tmp 131) s 0 #[.int .u8 7, .string ⟨#[]⟩, .slice (some ⟨g, 0, none⟩) 1 1, .int .i64 (1 + (a : Int)), .slice vA vs.length vc, .slice none 0 0] rfl rfl (there_blk_at hb9 (by simp)) (by kernel_rfl) (by simp [Value.oneCell']) ?_
            try simp only [Act.put, List.setIfInBounds_toArray, List.set_cons_zero, List.set_cons_succ]
            rw [hW9.out]
            go_wp2_with fail
            go_meet
            refine ⟨St.mk ⟨7, ⟨#[]⟩, (1 + (a : Int))⟩ ⟨some ⟨g, 0, none⟩, 1⟩ ⟨vA, vc⟩ ⟨none, 0⟩ [(xB 15 g2 (1 + (b : Int)))] vs [], ?_, hbf.out, hL9.out, hLd.out, ?_, hO9.out⟩
            · rw [hp1.out, oneM_while (dd := dd) hxk.out hxt.out hxa.out hxb.out]
              show St.mk _ () () () (plains [(xB 15 g2 (1 + (b : Int)))]) (plainS vs) (plainS []) = _
              rw [hpg.out, hpv.out]
              rfl
            · rw [hp1.out, oneM_while (dd := dd) hxk.out hxt.out hxa.out hxb.out]; exact hM9.out
        by_cases hk14e : q = 14
        · obtain rfl : q = 14 := hk14e
          obtain rfl : qI = 14 := by simpa using hqI'.out
          clear hk13 hk13e
          have c15 := hM1.cell (by omega) hM1.st.c15
          have c24 := hM1.cell (by omega) hM1.st.c24
          have hhP := hM1.st.hP
          have hnp := hM1.st.np
          have hMl := hM1.nx.lt_size
          obtain ⟨pp, hpp⟩ : ∃ pp, pp = e.p.param := ⟨_, rfl⟩
          rw [← hpp] at c24
          replace hpp := Lib.hid hpp
          cases pp
          · skip
            by_cases hnp0 : 0 < e.np
            · have hpar := Lib.hid hpp.out.symm
              have hhas : e.p.hasP = true := by rw [hhP]; simp [hnp0]
              replace hhas := Lib.hid hhas
              replace hhP := Lib.hid hhP
              have hni : (0 : Int) < (e.np : Int) := by omega
              have hnb : decide ((e.np : Int) > 0) = true := by simp; omega
              clear hnp0
              obtain ⟨⟨tx, r2⟩, hxx⟩ : ∃ p, exprM e.p 1 (e.p.w) 0 r1 = p := ⟨_, rfl⟩
              have hc : Calls Try.prog 33 #[.pointer (some ⟨M, 0, none⟩), .int .i64 (e.p.w : Int), .int .i64 0, .int .i64 1] W1 (EPost B W1 M cs d e (exprM e.p 1 (e.p.w) 0 r1)) := expr_ok 1 (by omega) (e.p.w) 0 (hw1) (hw3) (by omega) B M cs d e r1 _ hM1 (hS1.le hwB)
              rw [hxx] at hc
              replace hxx := Lib.hid hxx
              replace hc := Lib.hid hc
              have hMl := hM1.nx.lt_size
              have hS1' := Lib.hid hS1
              have hM1' := Lib.hid hM1
              clear hS1 hM1
              have hszx : s < (W1).heap.size := hS1'.out.size
              go_wp2_with fail
              refine hc.out.mono ?_
              rintro xx W2 ⟨xk, xo, xv, xw, xn, xA, xc, xs, rfl, hpx, hLx, hdx, hM2, hO2⟩
              have hS2 := hS1'.out.step hO2
              have hGx := Lib.hid hLx.ge
              have hZ2 := hO2.size
              replace hLx := Lib.hid hLx
              replace hdx := Lib.hid hdx
              try dsimp only at hpx hM2
              replace hpx := Lib.hid hpx
              clear hMl
              clear hc hS1' hM1' hO2
              have hBx := (Below.refl _ W2).alloc (Nat.le_refl _) (.cells #[.int .u8 xk, .int .u8 xo, .int .u32 xv, .int .i64 xw, .string xn, .slice xA xs.length xc] 30)
              have hbg := Blk.new (W2) 30 #[.int .u8 xk, .int .u8 xo, .int .u32 xv, .int .i64 xw, .string xn, .slice xA xs.length xc]
              obtain ⟨g, hg⟩ : ∃ g, (W2).heap.size = g := ⟨_, rfl⟩
              have hgg : (W2).heap.size ≤ g := by omega
              rw [hg] at hbg
              replace hg := Lib.hid hg
              have hsRi := hS2.size
              have hLg : Lex.own eT ((W2).alloc (.cells #[.int .u8 xk, .int .u8 xo, .int .u32 xv, .int .i64 xw, .string xn, .slice xA xs.length xc] 30)) (s + 1) ⟨some ⟨g, 0, none⟩, 1⟩ [(Ex.mk ⟨xk, xo, xv, xw, xn⟩ (⟨xA, xc⟩ : Loc) xs)] := own_mk ⟨0, 0, 0, 0, ⟨#[]⟩⟩ [(Ex.mk ⟨xk, xo, xv, xw, xn⟩ (⟨xA, xc⟩ : Loc) xs)] hbg rfl (by omega) (by simp) ⟨(hLx.out.keep (only_of_below [] hBx) (by simp)).base_le hszx, trivial⟩
              have hdg : (Lex.fp ⟨some ⟨g, 0, none⟩, 1⟩ [(Ex.mk ⟨xk, xo, xv, xw, xn⟩ (⟨xA, xc⟩ : Loc) xs)]).Nodup := by
                show (g :: ((Ex.mk ⟨xk, xo, xv, xw, xn⟩ (⟨xA, xc⟩ : Loc) xs).fp ++ [])).Nodup
                rw [List.append_nil]
                exact List.nodup_cons.2 ⟨fun hm => by have := (hLx.out.ge g hm).2; omega, hdx.out⟩
              have hS3 := hS2.new hBx
              have hM3 := hM2.new (hS2.le hwB) hBx
              have hGg := Lib.hid hLg.ge
              have hpg : plains [(Ex.mk ⟨xk, xo, xv, xw, xn⟩ (⟨xA, xc⟩ : Loc) xs)] = [tx] := by simp only [plains, hpx.out]
              replace hpg := Lib.hid hpg
              replace hLg := Lib.hid hLg
              replace hdg := Lib.hid hdg
              clear hLx hdx hGx hpx
              clear hBx hbg hS2 hM2
              have hL : ((St.mk ⟨8, ⟨#[112]⟩, 0⟩ ⟨some ⟨g, 0, none⟩, 1⟩ ⟨none, 0⟩ ⟨none, 0⟩ [(Ex.mk ⟨xk, xo, xv, xw, xn⟩ (⟨xA, xc⟩ : Loc) xs)] [] []) : St Loc).own eT ((W2).alloc (.cells #[.int .u8 xk, .int .u8 xo, .int .u32 xv, .int .i64 xw, .string xn, .slice xA xs.length xc] 30)) (s + 1) := ⟨hLg.out, ⟨World.ownsRow_nil _ _ _ _, trivial⟩, ⟨World.ownsRow_nil _ _ _ _, trivial⟩⟩
              have hLd : ((St.mk ⟨8, ⟨#[112]⟩, 0⟩ ⟨some ⟨g, 0, none⟩, 1⟩ ⟨none, 0⟩ ⟨none, 0⟩ [(Ex.mk ⟨xk, xo, xv, xw, xn⟩ (⟨xA, xc⟩ : Loc) xs)] [] []) : St Loc).fp.Nodup := by
                show (Lex.fp ⟨some ⟨g, 0, none⟩, 1⟩ [(Ex.mk ⟨xk, xo, xv, xw, xn⟩ (⟨xA, xc⟩ : Loc) xs)] ++ (([] : List Nat) ++ ([] : List Nat))).Nodup
                simp only [List.append_nil, List.nil_append]
                exact hdg.out
              have hb9 := hS3.x
              have hbl := hb9.lt
              obtain ⟨hbf, hM9, hO9, hL9⟩ := stmt_end (w := wr) (St.mk ⟨8, ⟨#[112]⟩, 0⟩ ⟨some ⟨g, 0, none⟩, 1⟩ ⟨none, 0⟩ ⟨none, 0⟩ [(Ex.mk ⟨xk, xo, xv, xw, xn⟩ (⟨xA, xc⟩ : Loc) xs)] [] []) hS3.x hM3 hS3.on hwB hS3.o hL
              simp only [St.cells, eT, List.length_cons, List.length_nil, Nat.reduceAdd] at hbf hM9 hO9 hL9
              generalize hW9 : World.setCells _ s 0 _ = W9 at hbf hM9 hO9 hL9
              replace hW9 := Lib.hid hW9
              replace hbf := Lib.hid hbf
              replace hM9 := Lib.hid hM9
              replace hO9 := Lib.hid hO9
              replace hL9 := Lib.hid hL9
              replace hLd := Lib.hid hLd
              clear hL
              try simp only []
              repeat ((fail_if_success (with_reducible refine wpList_store_at 51 (.tmp 9) (.tmp 155) s 0 #[.int .u8 8, .string ⟨#[112]⟩, .slice (some ⟨g, 0, none⟩) 1 1, .int .i64 0, .slice none 0 0, .slice none 0 0] ?_ ?_ ?_ ?_ ?_ ?_)); (first | go_skip | go_guarded | go_step | go_upon | go_simp))
              try rw [hg.out]
              refine wpList_store_at 51 (.tmp 9) (.tmp 155) s 0 #[.int .u8 8, .string ⟨#[112]⟩, .slice (some ⟨g, 0, none⟩) 1 1, .int .i64 0, .slice none 0 0, .slice none 0 0] rfl rfl (there_blk_at hb9 (by simp)) (by kernel_rfl) (by simp [Value.oneCell']) ?_
              try simp only [Act.put, List.setIfInBounds_toArray, List.set_cons_zero, List.set_cons_succ]
              rw [hW9.out]
              go_wp2_with fail
              go_meet
              refine ⟨St.mk ⟨8, ⟨#[112]⟩, 0⟩ ⟨some ⟨g, 0, none⟩, 1⟩ ⟨none, 0⟩ ⟨none, 0⟩ [(Ex.mk ⟨xk, xo, xv, xw, xn⟩ (⟨xA, xc⟩ : Loc) xs)] [] [], ?_, hbf.out, hL9.out, hLd.out, ?_, hO9.out⟩
              · rw [hp1.out, oneM_call hxk.out hpar.out hhas.out hxx.out]
                show St.mk _ () () () (plains [(Ex.mk ⟨xk, xo, xv, xw, xn⟩ (⟨xA, xc⟩ : Loc) xs)]) (plainS []) (plainS []) = _
                rw [hpg.out]
                rfl
              · rw [hp1.out, oneM_call hxk.out hpar.out hhas.out hxx.out]; exact hM9.out
            · have ho : ¬ (14 < 13 ∧ 0 < deep) := by omega
              have ho2 : ¬ (14 = 13 ∧ 0 < deep) := by omega
              have ho3 : ¬ (14 = 14 ∧ e.p.param = false ∧ e.p.hasP = true) := by rw [hhP]; simp [hnp0]
              replace ho := Lib.hid ho
              replace ho2 := Lib.hid ho2
              replace ho3 := Lib.hid ho3
              replace hk11 := Lib.hid hk11
              replace hhP := Lib.hid hhP
              have hni : ¬ (0 : Int) < (e.np : Int) := by omega
              have hnb : decide ((e.np : Int) > 0) = false := by simp; omega
              clear hnp0
              obtain ⟨⟨tx, r2⟩, hxx⟩ : ∃ p, leafM e.p (1) 0 r1 = p := ⟨_, rfl⟩
              have hc : Calls Try.prog 68 #[.pointer (some ⟨M, 0, none⟩), .int .i64 1, .int .i64 0] W1 (EPost B W1 M cs d e (leafM e.p (1) 0 r1)) := (leaf_ok (1) 0 (by omega) (by omega) (by omega) hM1 (hS1.le hwB)).mono fun x W' ⟨⟨xk, xo, xv, xw, xn⟩, h1, h2, h3, h4⟩ => ⟨xk, xo, xv, xw, xn, none, 0, [], h1, h2, ⟨World.ownsRow_nil _ _ _ _, trivial⟩, List.nodup_nil, h3, h4⟩
              rw [hxx] at hc
              replace hxx := Lib.hid hxx
              replace hc := Lib.hid hc
              have hMl := hM1.nx.lt_size
              have hS1' := Lib.hid hS1
              have hM1' := Lib.hid hM1
              clear hS1 hM1
              have hszx : s < (W1).heap.size := hS1'.out.size
              go_wp2_with fail
              refine hc.out.mono ?_
              rintro xx W2 ⟨xk, xo, xv, xw, xn, xA, xc, xs, rfl, hpx, hLx, hdx, hM2, hO2⟩
              have hS2 := hS1'.out.step hO2
              have hGx := Lib.hid hLx.ge
              have hZ2 := hO2.size
              replace hLx := Lib.hid hLx
              replace hdx := Lib.hid hdx
              try dsimp only at hpx hM2
              replace hpx := Lib.hid hpx
              clear hMl
              clear hc hS1' hM1' hO2
              obtain ⟨⟨ty, r3⟩, hxy⟩ : ∃ p, leafM e.p (e.p.w) 0 r2 = p := ⟨_, rfl⟩
              have hc : Calls Try.prog 68 #[.pointer (some ⟨M, 0, none⟩), .int .i64 (e.p.w : Int), .int .i64 0] W2 (EPost B W2 M cs d e (leafM e.p (e.p.w) 0 r2)) := (leaf_ok (e.p.w) 0 (hw1) (hw3) (by omega) hM2 (hS2.le hwB)).mono fun x W' ⟨⟨xk, xo, xv, xw, xn⟩, h1, h2, h3, h4⟩ => ⟨xk, xo, xv, xw, xn, none, 0, [], h1, h2, ⟨World.ownsRow_nil _ _ _ _, trivial⟩, List.nodup_nil, h3, h4⟩
              rw [hxy] at hc
              replace hxy := Lib.hid hxy
              replace hc := Lib.hid hc
              have hMl := hM2.nx.lt_size
              have hS2' := Lib.hid hS2
              have hM2' := Lib.hid hM2
              clear hS2 hM2
              have hszy : s < (W2).heap.size := hS2'.out.size
              go_wp2_with fail
              refine hc.out.mono ?_
              rintro xx W3 ⟨yk, yo, yv, yw, yn, yA, yc, ys, rfl, hpy, hLy, hdy, hM3, hO3⟩
              have hS3 := hS2'.out.step hO3
              have hGy := Lib.hid hLy.ge
              have hZ3 := hO3.size
              replace hLy := Lib.hid hLy
              replace hdy := Lib.hid hdy
              try dsimp only at hpy hM3
              replace hpy := Lib.hid hpy
              replace hLx := Lib.hid (hLx.out.keep hO3 (fun b hb hm => by rw [List.mem_singleton] at hm; have := (hGx.out b hb).1; have := hS2'.out.ml; have := hS2'.out.o; omega))
              clear hMl
              clear hc hS2' hM2' hO3
              have hBx := (Below.refl _ W3).alloc (Nat.le_refl _) (.cells #[.int .u8 xk, .int .u8 xo, .int .u32 xv, .int .i64 xw, .string xn, .slice xA xs.length xc, .int .u8 yk, .int .u8 yo, .int .u32 yv, .int .i64 yw, .string yn, .slice yA ys.length yc] 30)
              have hbg := Blk.new (W3) 30 #[.int .u8 xk, .int .u8 xo, .int .u32 xv, .int .i64 xw, .string xn, .slice xA xs.length xc, .int .u8 yk, .int .u8 yo, .int .u32 yv, .int .i64 yw, .string yn, .slice yA ys.length yc]
              obtain ⟨g, hg⟩ : ∃ g, (W3).heap.size = g := ⟨_, rfl⟩
              have hgg : (W3).heap.size ≤ g := by omega
              rw [hg] at hbg
              replace hg := Lib.hid hg
              have hsRi := hS3.size
              have hLg : Lex.own eT ((W3).alloc (.cells #[.int .u8 xk, .int .u8 xo, .int .u32 xv, .int .i64 xw, .string xn, .slice xA xs.length xc, .int .u8 yk, .int .u8 yo, .int .u32 yv, .int .i64 yw, .string yn, .slice yA ys.length yc] 30)) (s + 1) ⟨some ⟨g, 0, none⟩, 2⟩ [(Ex.mk ⟨xk, xo, xv, xw, xn⟩ (⟨xA, xc⟩ : Loc) xs), (Ex.mk ⟨yk, yo, yv, yw, yn⟩ (⟨yA, yc⟩ : Loc) ys)] := own_mk ⟨0, 0, 0, 0, ⟨#[]⟩⟩ [(Ex.mk ⟨xk, xo, xv, xw, xn⟩ (⟨xA, xc⟩ : Loc) xs), (Ex.mk ⟨yk, yo, yv, yw, yn⟩ (⟨yA, yc⟩ : Loc) ys)] hbg rfl (by omega) (by simp) ⟨(hLx.out.keep (only_of_below [] hBx) (by simp)).base_le hszx, (hLy.out.keep (only_of_below [] hBx) (by simp)).base_le hszy, trivial⟩
              have hdg : (Lex.fp ⟨some ⟨g, 0, none⟩, 2⟩ [(Ex.mk ⟨xk, xo, xv, xw, xn⟩ (⟨xA, xc⟩ : Loc) xs), (Ex.mk ⟨yk, yo, yv, yw, yn⟩ (⟨yA, yc⟩ : Loc) ys)]).Nodup := by
                show (g :: ((Ex.mk ⟨xk, xo, xv, xw, xn⟩ (⟨xA, xc⟩ : Loc) xs).fp ++ ((Ex.mk ⟨yk, yo, yv, yw, yn⟩ (⟨yA, yc⟩ : Loc) ys).fp ++ []))).Nodup
                rw [List.append_nil]
                refine List.nodup_cons.2 ⟨fun hm => ?_, ?_⟩
                · simp only [List.mem_append] at hm
                  rcases hm with hm | hm
                  · have := (hLx.out.ge g hm).2; omega
                  · have := (hLy.out.ge g hm).2; omega
                · exact nodup_at hdx.out hdy.out (B := W2.heap.size) (fun b hb => (hGx.out b hb).2) (fun b hb => (hGy.out b hb).1)
              have hS4 := hS3.new hBx
              have hM4 := hM3.new (hS3.le hwB) hBx
              have hGg := Lib.hid hLg.ge
              have hpg : plains [(Ex.mk ⟨xk, xo, xv, xw, xn⟩ (⟨xA, xc⟩ : Loc) xs), (Ex.mk ⟨yk, yo, yv, yw, yn⟩ (⟨yA, yc⟩ : Loc) ys)] = [tx, ty] := by simp only [plains, hpx.out, hpy.out]
              replace hpg := Lib.hid hpg
              replace hLg := Lib.hid hLg
              replace hdg := Lib.hid hdg
              clear hLx hdx hGx hpx
              clear hLy hdy hGy hpy
              clear hBx hbg hS3 hM3
              have hL : ((St.mk ⟨3, ⟨#[]⟩, 0⟩ ⟨some ⟨g, 0, none⟩, 2⟩ ⟨none, 0⟩ ⟨none, 0⟩ [(Ex.mk ⟨xk, xo, xv, xw, xn⟩ (⟨xA, xc⟩ : Loc) xs), (Ex.mk ⟨yk, yo, yv, yw, yn⟩ (⟨yA, yc⟩ : Loc) ys)] [] []) : St Loc).own eT ((W3).alloc (.cells #[.int .u8 xk, .int .u8 xo, .int .u32 xv, .int .i64 xw, .string xn, .slice xA xs.length xc, .int .u8 yk, .int .u8 yo, .int .u32 yv, .int .i64 yw, .string yn, .slice yA ys.length yc] 30)) (s + 1) := ⟨hLg.out, ⟨World.ownsRow_nil _ _ _ _, trivial⟩, ⟨World.ownsRow_nil _ _ _ _, trivial⟩⟩
              have hLd : ((St.mk ⟨3, ⟨#[]⟩, 0⟩ ⟨some ⟨g, 0, none⟩, 2⟩ ⟨none, 0⟩ ⟨none, 0⟩ [(Ex.mk ⟨xk, xo, xv, xw, xn⟩ (⟨xA, xc⟩ : Loc) xs), (Ex.mk ⟨yk, yo, yv, yw, yn⟩ (⟨yA, yc⟩ : Loc) ys)] [] []) : St Loc).fp.Nodup := by
                show (Lex.fp ⟨some ⟨g, 0, none⟩, 2⟩ [(Ex.mk ⟨xk, xo, xv, xw, xn⟩ (⟨xA, xc⟩ : Loc) xs), (Ex.mk ⟨yk, yo, yv, yw, yn⟩ (⟨yA, yc⟩ : Loc) ys)] ++ (([] : List Nat) ++ ([] : List Nat))).Nodup
                simp only [List.append_nil, List.nil_append]
                exact hdg.out
              have hb9 := hS4.x
              have hbl := hb9.lt
              obtain ⟨hbf, hM9, hO9, hL9⟩ := stmt_end (w := wr) (St.mk ⟨3, ⟨#[]⟩, 0⟩ ⟨some ⟨g, 0, none⟩, 2⟩ ⟨none, 0⟩ ⟨none, 0⟩ [(Ex.mk ⟨xk, xo, xv, xw, xn⟩ (⟨xA, xc⟩ : Loc) xs), (Ex.mk ⟨yk, yo, yv, yw, yn⟩ (⟨yA, yc⟩ : Loc) ys)] [] []) hS4.x hM4 hS4.on hwB hS4.o hL
              simp only [St.cells, eT, List.length_cons, List.length_nil, Nat.reduceAdd] at hbf hM9 hO9 hL9
              generalize hW9 : World.setCells _ s 0 _ = W9 at hbf hM9 hO9 hL9
              replace hW9 := Lib.hid hW9
              replace hbf := Lib.hid hbf
              replace hM9 := Lib.hid hM9
              replace hO9 := Lib.hid hO9
              replace hL9 := Lib.hid hL9
              replace hLd := Lib.hid hLd
              clear hL
              try simp only []
              repeat ((fail_if_success (with_reducible refine wpList_store_at 51 (.tmp 9) (.tmp 33) s 0 #[.int .u8 3, .string ⟨#[]⟩, .slice (some ⟨g, 0, none⟩) 2 2, .int .i64 0, .slice none 0 0, .slice none 0 0] ?_ ?_ ?_ ?_ ?_ ?_)); (first | go_skip | go_guarded | go_step | go_upon | go_simp))
              try rw [hg.out]
              refine wpList_store_at 51 (.tmp 9) (.tmp 33) s 0 #[.int .u8 3, .string ⟨#[]⟩, .slice (some ⟨g, 0, none⟩) 2 2, .int .i64 0, .slice none 0 0, .slice none 0 0] rfl rfl (there_blk_at hb9 (by simp)) (by kernel_rfl) (by simp [Value.oneCell']) ?_
              try simp only [Act.put, List.setIfInBounds_toArray, List.set_cons_zero, List.set_cons_succ]
              rw [hW9.out]
              go_wp2_with fail
              go_meet
              refine ⟨St.mk ⟨3, ⟨#[]⟩, 0⟩ ⟨some ⟨g, 0, none⟩, 2⟩ ⟨none, 0⟩ ⟨none, 0⟩ [(Ex.mk ⟨xk, xo, xv, xw, xn⟩ (⟨xA, xc⟩ : Loc) xs), (Ex.mk ⟨yk, yo, yv, yw, yn⟩ (⟨yA, yc⟩ : Loc) ys)] [] [], ?_, hbf.out, hL9.out, hLd.out, ?_, hO9.out⟩
              · rw [hp1.out, oneM_other (deep := deep) hxk.out hk11.out ho.out (by first | exact ho2.out | exact fun q => ho2.out ⟨trivial, q.2⟩) (by first | exact ho3.out | exact fun q => ho3.out ⟨trivial, q.2⟩) hxx.out hxy.out]
                show St.mk _ () () () (plains [(Ex.mk ⟨xk, xo, xv, xw, xn⟩ (⟨xA, xc⟩ : Loc) xs), (Ex.mk ⟨yk, yo, yv, yw, yn⟩ (⟨yA, yc⟩ : Loc) ys)]) (plainS []) (plainS []) = _
                rw [hpg.out]
                rfl
              · rw [hp1.out, oneM_other (deep := deep) hxk.out hk11.out ho.out (by first | exact ho2.out | exact fun q => ho2.out ⟨trivial, q.2⟩) (by first | exact ho3.out | exact fun q => ho3.out ⟨trivial, q.2⟩) hxx.out hxy.out]; exact hM9.out
          · have ho : ¬ (14 < 13 ∧ 0 < deep) := by omega
            have ho2 : ¬ (14 = 13 ∧ 0 < deep) := by omega
            have ho3 : ¬ (14 = 14 ∧ e.p.param = false ∧ e.p.hasP = true) := by rw [← hpp.out]; simp
            replace ho := Lib.hid ho
            replace ho2 := Lib.hid ho2
            replace ho3 := Lib.hid ho3
            replace hk11 := Lib.hid hk11
            replace hhP := Lib.hid hhP
            obtain ⟨⟨tx, r2⟩, hxx⟩ : ∃ p, leafM e.p (1) 0 r1 = p := ⟨_, rfl⟩
            have hc : Calls Try.prog 68 #[.pointer (some ⟨M, 0, none⟩), .int .i64 1, .int .i64 0] W1 (EPost B W1 M cs d e (leafM e.p (1) 0 r1)) := (leaf_ok (1) 0 (by omega) (by omega) (by omega) hM1 (hS1.le hwB)).mono fun x W' ⟨⟨xk, xo, xv, xw, xn⟩, h1, h2, h3, h4⟩ => ⟨xk, xo, xv, xw, xn, none, 0, [], h1, h2, ⟨World.ownsRow_nil _ _ _ _, trivial⟩, List.nodup_nil, h3, h4⟩
            rw [hxx] at hc
            replace hxx := Lib.hid hxx
            replace hc := Lib.hid hc
            have hMl := hM1.nx.lt_size
            have hS1' := Lib.hid hS1
            have hM1' := Lib.hid hM1
            clear hS1 hM1
            have hszx : s < (W1).heap.size := hS1'.out.size
            go_wp2_with fail
            refine hc.out.mono ?_
            rintro xx W2 ⟨xk, xo, xv, xw, xn, xA, xc, xs, rfl, hpx, hLx, hdx, hM2, hO2⟩
            have hS2 := hS1'.out.step hO2
            have hGx := Lib.hid hLx.ge
            have hZ2 := hO2.size
            replace hLx := Lib.hid hLx
            replace hdx := Lib.hid hdx
            try dsimp only at hpx hM2
            replace hpx := Lib.hid hpx
            clear hMl
            clear hc hS1' hM1' hO2
            obtain ⟨⟨ty, r3⟩, hxy⟩ : ∃ p, leafM e.p (e.p.w) 0 r2 = p := ⟨_, rfl⟩
            have hc : Calls Try.prog 68 #[.pointer (some ⟨M, 0, none⟩), .int .i64 (e.p.w : Int), .int .i64 0] W2 (EPost B W2 M cs d e (leafM e.p (e.p.w) 0 r2)) := (leaf_ok (e.p.w) 0 (hw1) (hw3) (by omega) hM2 (hS2.le hwB)).mono fun x W' ⟨⟨xk, xo, xv, xw, xn⟩, h1, h2, h3, h4⟩ => ⟨xk, xo, xv, xw, xn, none, 0, [], h1, h2, ⟨World.ownsRow_nil _ _ _ _, trivial⟩, List.nodup_nil, h3, h4⟩
            rw [hxy] at hc
            replace hxy := Lib.hid hxy
            replace hc := Lib.hid hc
            have hMl := hM2.nx.lt_size
            have hS2' := Lib.hid hS2
            have hM2' := Lib.hid hM2
            clear hS2 hM2
            have hszy : s < (W2).heap.size := hS2'.out.size
            go_wp2_with fail
            refine hc.out.mono ?_
            rintro xx W3 ⟨yk, yo, yv, yw, yn, yA, yc, ys, rfl, hpy, hLy, hdy, hM3, hO3⟩
            have hS3 := hS2'.out.step hO3
            have hGy := Lib.hid hLy.ge
            have hZ3 := hO3.size
            replace hLy := Lib.hid hLy
            replace hdy := Lib.hid hdy
            try dsimp only at hpy hM3
            replace hpy := Lib.hid hpy
            replace hLx := Lib.hid (hLx.out.keep hO3 (fun b hb hm => by rw [List.mem_singleton] at hm; have := (hGx.out b hb).1; have := hS2'.out.ml; have := hS2'.out.o; omega))
            clear hMl
            clear hc hS2' hM2' hO3
            have hBx := (Below.refl _ W3).alloc (Nat.le_refl _) (.cells #[.int .u8 xk, .int .u8 xo, .int .u32 xv, .int .i64 xw, .string xn, .slice xA xs.length xc, .int .u8 yk, .int .u8 yo, .int .u32 yv, .int .i64 yw, .string yn, .slice yA ys.length yc] 30)
            have hbg := Blk.new (W3) 30 #[.int .u8 xk, .int .u8 xo, .int .u32 xv, .int .i64 xw, .string xn, .slice xA xs.length xc, .int .u8 yk, .int .u8 yo, .int .u32 yv, .int .i64 yw, .string yn, .slice yA ys.length yc]
            obtain ⟨g, hg⟩ : ∃ g, (W3).heap.size = g := ⟨_, rfl⟩
            have hgg : (W3).heap.size ≤ g := by omega
            rw [hg] at hbg
            replace hg := Lib.hid hg
            have hsRi := hS3.size
            have hLg : Lex.own eT ((W3).alloc (.cells #[.int .u8 xk, .int .u8 xo, .int .u32 xv, .int .i64 xw, .string xn, .slice xA xs.length xc, .int .u8 yk, .int .u8 yo, .int .u32 yv, .int .i64 yw, .string yn, .slice yA ys.length yc] 30)) (s + 1) ⟨some ⟨g, 0, none⟩, 2⟩ [(Ex.mk ⟨xk, xo, xv, xw, xn⟩ (⟨xA, xc⟩ : Loc) xs), (Ex.mk ⟨yk, yo, yv, yw, yn⟩ (⟨yA, yc⟩ : Loc) ys)] := own_mk ⟨0, 0, 0, 0, ⟨#[]⟩⟩ [(Ex.mk ⟨xk, xo, xv, xw, xn⟩ (⟨xA, xc⟩ : Loc) xs), (Ex.mk ⟨yk, yo, yv, yw, yn⟩ (⟨yA, yc⟩ : Loc) ys)] hbg rfl (by omega) (by simp) ⟨(hLx.out.keep (only_of_below [] hBx) (by simp)).base_le hszx, (hLy.out.keep (only_of_below [] hBx) (by simp)).base_le hszy, trivial⟩
            have hdg : (Lex.fp ⟨some ⟨g, 0, none⟩, 2⟩ [(Ex.mk ⟨xk, xo, xv, xw, xn⟩ (⟨xA, xc⟩ : Loc) xs), (Ex.mk ⟨yk, yo, yv, yw, yn⟩ (⟨yA, yc⟩ : Loc) ys)]).Nodup := by
              show (g :: ((Ex.mk ⟨xk, xo, xv, xw, xn⟩ (⟨xA, xc⟩ : Loc) xs).fp ++ ((Ex.mk ⟨yk, yo, yv, yw, yn⟩ (⟨yA, yc⟩ : Loc) ys).fp ++ []))).Nodup
              rw [List.append_nil]
              refine List.nodup_cons.2 ⟨fun hm => ?_, ?_⟩
              · simp only [List.mem_append] at hm
                rcases hm with hm | hm
                · have := (hLx.out.ge g hm).2; omega
                · have := (hLy.out.ge g hm).2; omega
              · exact nodup_at hdx.out hdy.out (B := W2.heap.size) (fun b hb => (hGx.out b hb).2) (fun b hb => (hGy.out b hb).1)
            have hS4 := hS3.new hBx
            have hM4 := hM3.new (hS3.le hwB) hBx
            have hGg := Lib.hid hLg.ge
            have hpg : plains [(Ex.mk ⟨xk, xo, xv, xw, xn⟩ (⟨xA, xc⟩ : Loc) xs), (Ex.mk ⟨yk, yo, yv, yw, yn⟩ (⟨yA, yc⟩ : Loc) ys)] = [tx, ty] := by simp only [plains, hpx.out, hpy.out]
            replace hpg := Lib.hid hpg
            replace hLg := Lib.hid hLg
            replace hdg := Lib.hid hdg
            clear hLx hdx hGx hpx
            clear hLy hdy hGy hpy
            clear hBx hbg hS3 hM3
            have hL : ((St.mk ⟨3, ⟨#[]⟩, 0⟩ ⟨some ⟨g, 0, none⟩, 2⟩ ⟨none, 0⟩ ⟨none, 0⟩ [(Ex.mk ⟨xk, xo, xv, xw, xn⟩ (⟨xA, xc⟩ : Loc) xs), (Ex.mk ⟨yk, yo, yv, yw, yn⟩ (⟨yA, yc⟩ : Loc) ys)] [] []) : St Loc).own eT ((W3).alloc (.cells #[.int .u8 xk, .int .u8 xo, .int .u32 xv, .int .i64 xw, .string xn, .slice xA xs.length xc, .int .u8 yk, .int .u8 yo, .int .u32 yv, .int .i64 yw, .string yn, .slice yA ys.length yc] 30)) (s + 1) := ⟨hLg.out, ⟨World.ownsRow_nil _ _ _ _, trivial⟩, ⟨World.ownsRow_nil _ _ _ _, trivial⟩⟩
            have hLd : ((St.mk ⟨3, ⟨#[]⟩, 0⟩ ⟨some ⟨g, 0, none⟩, 2⟩ ⟨none, 0⟩ ⟨none, 0⟩ [(Ex.mk ⟨xk, xo, xv, xw, xn⟩ (⟨xA, xc⟩ : Loc) xs), (Ex.mk ⟨yk, yo, yv, yw, yn⟩ (⟨yA, yc⟩ : Loc) ys)] [] []) : St Loc).fp.Nodup := by
              show (Lex.fp ⟨some ⟨g, 0, none⟩, 2⟩ [(Ex.mk ⟨xk, xo, xv, xw, xn⟩ (⟨xA, xc⟩ : Loc) xs), (Ex.mk ⟨yk, yo, yv, yw, yn⟩ (⟨yA, yc⟩ : Loc) ys)] ++ (([] : List Nat) ++ ([] : List Nat))).Nodup
              simp only [List.append_nil, List.nil_append]
              exact hdg.out
            have hb9 := hS4.x
            have hbl := hb9.lt
            obtain ⟨hbf, hM9, hO9, hL9⟩ := stmt_end (w := wr) (St.mk ⟨3, ⟨#[]⟩, 0⟩ ⟨some ⟨g, 0, none⟩, 2⟩ ⟨none, 0⟩ ⟨none, 0⟩ [(Ex.mk ⟨xk, xo, xv, xw, xn⟩ (⟨xA, xc⟩ : Loc) xs), (Ex.mk ⟨yk, yo, yv, yw, yn⟩ (⟨yA, yc⟩ : Loc) ys)] [] []) hS4.x hM4 hS4.on hwB hS4.o hL
            simp only [St.cells, eT, List.length_cons, List.length_nil, Nat.reduceAdd] at hbf hM9 hO9 hL9
            generalize hW9 : World.setCells _ s 0 _ = W9 at hbf hM9 hO9 hL9
            replace hW9 := Lib.hid hW9
            replace hbf := Lib.hid hbf
            replace hM9 := Lib.hid hM9
            replace hO9 := Lib.hid hO9
            replace hL9 := Lib.hid hL9
            replace hLd := Lib.hid hLd
            clear hL
            try simp only []
            repeat ((fail_if_success (with_reducible refine wpList_store_at 51 (.tmp 9) (.tmp 33) s 0 #[.int .u8 3, .string ⟨#[]⟩, .slice (some ⟨g, 0, none⟩) 2 2, .int .i64 0, .slice none 0 0, .slice none 0 0] ?_ ?_ ?_ ?_ ?_ ?_)); (first | go_skip | go_guarded | go_step | go_upon | go_simp))
            try rw [hg.out]
            refine wpList_store_at 51 (.tmp 9) (.tmp 33) s 0 #[.int .u8 3, .string ⟨#[]⟩, .slice (some ⟨g, 0, none⟩) 2 2, .int .i64 0, .slice none 0 0, .slice none 0 0] rfl rfl (there_blk_at hb9 (by simp)) (by kernel_rfl) (by simp [Value.oneCell']) ?_
            try simp only [Act.put, List.setIfInBounds_toArray, List.set_cons_zero, List.set_cons_succ]
            rw [hW9.out]
            go_wp2_with fail
            go_meet
            refine ⟨St.mk ⟨3, ⟨#[]⟩, 0⟩ ⟨some ⟨g, 0, none⟩, 2⟩ ⟨none, 0⟩ ⟨none, 0⟩ [(Ex.mk ⟨xk, xo, xv, xw, xn⟩ (⟨xA, xc⟩ : Loc) xs), (Ex.mk ⟨yk, yo, yv, yw, yn⟩ (⟨yA, yc⟩ : Loc) ys)] [] [], ?_, hbf.out, hL9.out, hLd.out, ?_, hO9.out⟩
            · rw [hp1.out, oneM_other (deep := deep) hxk.out hk11.out ho.out (by first | exact ho2.out | exact fun q => ho2.out ⟨trivial, q.2⟩) (by first | exact ho3.out | exact fun q => ho3.out ⟨trivial, q.2⟩) hxx.out hxy.out]
              show St.mk _ () () () (plains [(Ex.mk ⟨xk, xo, xv, xw, xn⟩ (⟨xA, xc⟩ : Loc) xs), (Ex.mk ⟨yk, yo, yv, yw, yn⟩ (⟨yA, yc⟩ : Loc) ys)]) (plainS []) (plainS []) = _
              rw [hpg.out]
              rfl
            · rw [hp1.out, oneM_other (deep := deep) hxk.out hk11.out ho.out (by first | exact ho2.out | exact fun q => ho2.out ⟨trivial, q.2⟩) (by first | exact ho3.out | exact fun q => ho3.out ⟨trivial, q.2⟩) hxx.out hxy.out]; exact hM9.out
        obtain rfl : q = 15 := by omega
        obtain rfl : qI = 15 := by simpa using hqI'.out
        have ho : ¬ (15 < 13 ∧ 0 < deep) := by omega
        have ho2 : ¬ (15 = 13 ∧ 0 < deep) := by omega
        have ho3 : ¬ (15 = 14 ∧ e.p.param = false ∧ e.p.hasP = true) := by omega
        replace ho := Lib.hid ho
        replace ho2 := Lib.hid ho2
        replace ho3 := Lib.hid ho3
        replace hk11 := Lib.hid hk11
        clear hk13 hk13e hk14e
        obtain ⟨⟨tx, r2⟩, hxx⟩ : ∃ p, leafM e.p (1) 0 r1 = p := ⟨_, rfl⟩
        have hc : Calls Try.prog 68 #[.pointer (some ⟨M, 0, none⟩), .int .i64 1, .int .i64 0] W1 (EPost B W1 M cs d e (leafM e.p (1) 0 r1)) := (leaf_ok (1) 0 (by omega) (by omega) (by omega) hM1 (hS1.le hwB)).mono fun x W' ⟨⟨xk, xo, xv, xw, xn⟩, h1, h2, h3, h4⟩ => ⟨xk, xo, xv, xw, xn, none, 0, [], h1, h2, ⟨World.ownsRow_nil _ _ _ _, trivial⟩, List.nodup_nil, h3, h4⟩
        rw [hxx] at hc
        replace hxx := Lib.hid hxx
        replace hc := Lib.hid hc
        have hMl := hM1.nx.lt_size
        have hS1' := Lib.hid hS1
        have hM1' := Lib.hid hM1
        clear hS1 hM1
        have hszx : s < (W1).heap.size := hS1'.out.size
        go_wp2_with fail
        refine hc.out.mono ?_
        rintro xx W2 ⟨xk, xo, xv, xw, xn, xA, xc, xs, rfl, hpx, hLx, hdx, hM2, hO2⟩
        have hS2 := hS1'.out.step hO2
        have hGx := Lib.hid hLx.ge
        have hZ2 := hO2.size
        replace hLx := Lib.hid hLx
        replace hdx := Lib.hid hdx
        try dsimp only at hpx hM2
        replace hpx := Lib.hid hpx
        clear hMl
        clear hc hS1' hM1' hO2
        obtain ⟨⟨ty, r3⟩, hxy⟩ : ∃ p, leafM e.p (e.p.w) 0 r2 = p := ⟨_, rfl⟩
        have hc : Calls Try.prog 68 #[.pointer (some ⟨M, 0, none⟩), .int .i64 (e.p.w : Int), .int .i64 0] W2 (EPost B W2 M cs d e (leafM e.p (e.p.w) 0 r2)) := (leaf_ok (e.p.w) 0 (hw1) (hw3) (by omega) hM2 (hS2.le hwB)).mono fun x W' ⟨⟨xk, xo, xv, xw, xn⟩, h1, h2, h3, h4⟩ => ⟨xk, xo, xv, xw, xn, none, 0, [], h1, h2, ⟨World.ownsRow_nil _ _ _ _, trivial⟩, List.nodup_nil, h3, h4⟩
        rw [hxy] at hc
        replace hxy := Lib.hid hxy
        replace hc := Lib.hid hc
        have hMl := hM2.nx.lt_size
        have hS2' := Lib.hid hS2
        have hM2' := Lib.hid hM2
        clear hS2 hM2
        have hszy : s < (W2).heap.size := hS2'.out.size
        go_wp2_with fail
        refine hc.out.mono ?_
        rintro xx W3 ⟨yk, yo, yv, yw, yn, yA, yc, ys, rfl, hpy, hLy, hdy, hM3, hO3⟩
        have hS3 := hS2'.out.step hO3
        have hGy := Lib.hid hLy.ge
        have hZ3 := hO3.size
        replace hLy := Lib.hid hLy
        replace hdy := Lib.hid hdy
        try dsimp only at hpy hM3
        replace hpy := Lib.hid hpy
        replace hLx := Lib.hid (hLx.out.keep hO3 (fun b hb hm => by rw [List.mem_singleton] at hm; have := (hGx.out b hb).1; have := hS2'.out.ml; have := hS2'.out.o; omega))
        clear hMl
        clear hc hS2' hM2' hO3
        have hBx := (Below.refl _ W3).alloc (Nat.le_refl _) (.cells #[.int .u8 xk, .int .u8 xo, .int .u32 xv, .int .i64 xw, .string xn, .slice xA xs.length xc, .int .u8 yk, .int .u8 yo, .int .u32 yv, .int .i64 yw, .string yn, .slice yA ys.length yc] 30)
        have hbg := Blk.new (W3) 30 #[.int .u8 xk, .int .u8 xo, .int .u32 xv, .int .i64 xw, .string xn, .slice xA xs.length xc, .int .u8 yk, .int .u8 yo, .int .u32 yv, .int .i64 yw, .string yn, .slice yA ys.length yc]
        obtain ⟨g, hg⟩ : ∃ g, (W3).heap.size = g := ⟨_, rfl⟩
        have hgg : (W3).heap.size ≤ g := by omega
        rw [hg] at hbg
        replace hg := Lib.hid hg
        have hsRi := hS3.size
        have hLg : Lex.own eT ((W3).alloc (.cells #[.int .u8 xk, .int .u8 xo, .int .u32 xv, .int .i64 xw, .string xn, .slice xA xs.length xc, .int .u8 yk, .int .u8 yo, .int .u32 yv, .int .i64 yw, .string yn, .slice yA ys.length yc] 30)) (s + 1) ⟨some ⟨g, 0, none⟩, 2⟩ [(Ex.mk ⟨xk, xo, xv, xw, xn⟩ (⟨xA, xc⟩ : Loc) xs), (Ex.mk ⟨yk, yo, yv, yw, yn⟩ (⟨yA, yc⟩ : Loc) ys)] := own_mk ⟨0, 0, 0, 0, ⟨#[]⟩⟩ [(Ex.mk ⟨xk, xo, xv, xw, xn⟩ (⟨xA, xc⟩ : Loc) xs), (Ex.mk ⟨yk, yo, yv, yw, yn⟩ (⟨yA, yc⟩ : Loc) ys)] hbg rfl (by omega) (by simp) ⟨(hLx.out.keep (only_of_below [] hBx) (by simp)).base_le hszx, (hLy.out.keep (only_of_below [] hBx) (by simp)).base_le hszy, trivial⟩
        have hdg : (Lex.fp ⟨some ⟨g, 0, none⟩, 2⟩ [(Ex.mk ⟨xk, xo, xv, xw, xn⟩ (⟨xA, xc⟩ : Loc) xs), (Ex.mk ⟨yk, yo, yv, yw, yn⟩ (⟨yA, yc⟩ : Loc) ys)]).Nodup := by
          show (g :: ((Ex.mk ⟨xk, xo, xv, xw, xn⟩ (⟨xA, xc⟩ : Loc) xs).fp ++ ((Ex.mk ⟨yk, yo, yv, yw, yn⟩ (⟨yA, yc⟩ : Loc) ys).fp ++ []))).Nodup
          rw [List.append_nil]
          refine List.nodup_cons.2 ⟨fun hm => ?_, ?_⟩
          · simp only [List.mem_append] at hm
            rcases hm with hm | hm
            · have := (hLx.out.ge g hm).2; omega
            · have := (hLy.out.ge g hm).2; omega
          · exact nodup_at hdx.out hdy.out (B := W2.heap.size) (fun b hb => (hGx.out b hb).2) (fun b hb => (hGy.out b hb).1)
        have hS4 := hS3.new hBx
        have hM4 := hM3.new (hS3.le hwB) hBx
        have hGg := Lib.hid hLg.ge
        have hpg : plains [(Ex.mk ⟨xk, xo, xv, xw, xn⟩ (⟨xA, xc⟩ : Loc) xs), (Ex.mk ⟨yk, yo, yv, yw, yn⟩ (⟨yA, yc⟩ : Loc) ys)] = [tx, ty] := by simp only [plains, hpx.out, hpy.out]
        replace hpg := Lib.hid hpg
        replace hLg := Lib.hid hLg
        replace hdg := Lib.hid hdg
        clear hLx hdx hGx hpx
        clear hLy hdy hGy hpy
        clear hBx hbg hS3 hM3
        have hL : ((St.mk ⟨3, ⟨#[]⟩, 0⟩ ⟨some ⟨g, 0, none⟩, 2⟩ ⟨none, 0⟩ ⟨none, 0⟩ [(Ex.mk ⟨xk, xo, xv, xw, xn⟩ (⟨xA, xc⟩ : Loc) xs), (Ex.mk ⟨yk, yo, yv, yw, yn⟩ (⟨yA, yc⟩ : Loc) ys)] [] []) : St Loc).own eT ((W3).alloc (.cells #[.int .u8 xk, .int .u8 xo, .int .u32 xv, .int .i64 xw, .string xn, .slice xA xs.length xc, .int .u8 yk, .int .u8 yo, .int .u32 yv, .int .i64 yw, .string yn, .slice yA ys.length yc] 30)) (s + 1) := ⟨hLg.out, ⟨World.ownsRow_nil _ _ _ _, trivial⟩, ⟨World.ownsRow_nil _ _ _ _, trivial⟩⟩
        have hLd : ((St.mk ⟨3, ⟨#[]⟩, 0⟩ ⟨some ⟨g, 0, none⟩, 2⟩ ⟨none, 0⟩ ⟨none, 0⟩ [(Ex.mk ⟨xk, xo, xv, xw, xn⟩ (⟨xA, xc⟩ : Loc) xs), (Ex.mk ⟨yk, yo, yv, yw, yn⟩ (⟨yA, yc⟩ : Loc) ys)] [] []) : St Loc).fp.Nodup := by
          show (Lex.fp ⟨some ⟨g, 0, none⟩, 2⟩ [(Ex.mk ⟨xk, xo, xv, xw, xn⟩ (⟨xA, xc⟩ : Loc) xs), (Ex.mk ⟨yk, yo, yv, yw, yn⟩ (⟨yA, yc⟩ : Loc) ys)] ++ (([] : List Nat) ++ ([] : List Nat))).Nodup
          simp only [List.append_nil, List.nil_append]
          exact hdg.out
        have hb9 := hS4.x
        have hbl := hb9.lt
        obtain ⟨hbf, hM9, hO9, hL9⟩ := stmt_end (w := wr) (St.mk ⟨3, ⟨#[]⟩, 0⟩ ⟨some ⟨g, 0, none⟩, 2⟩ ⟨none, 0⟩ ⟨none, 0⟩ [(Ex.mk ⟨xk, xo, xv, xw, xn⟩ (⟨xA, xc⟩ : Loc) xs), (Ex.mk ⟨yk, yo, yv, yw, yn⟩ (⟨yA, yc⟩ : Loc) ys)] [] []) hS4.x hM4 hS4.on hwB hS4.o hL
        simp only [St.cells, eT, List.length_cons, List.length_nil, Nat.reduceAdd] at hbf hM9 hO9 hL9
        generalize hW9 : World.setCells _ s 0 _ = W9 at hbf hM9 hO9 hL9
        replace hW9 := Lib.hid hW9
        replace hbf := Lib.hid hbf
        replace hM9 := Lib.hid hM9
        replace hO9 := Lib.hid hO9
        replace hL9 := Lib.hid hL9
        replace hLd := Lib.hid hLd
        clear hL
        try simp only []
        repeat ((fail_if_success (with_reducible refine wpList_store_at 51 (.tmp 9) (.tmp 33) s 0 #[.int .u8 3, .string ⟨#[]⟩, .slice (some ⟨g, 0, none⟩) 2 2, .int .i64 0, .slice none 0 0, .slice none 0 0] ?_ ?_ ?_ ?_ ?_ ?_)); (first | go_skip | go_guarded | go_step | go_upon | go_simp))
        try rw [hg.out]
        refine wpList_store_at 51 (.tmp 9) (.tmp 33) s 0 #[.int .u8 3, .string ⟨#[]⟩, .slice (some ⟨g, 0, none⟩) 2 2, .int .i64 0, .slice none 0 0, .slice none 0 0] rfl rfl (there_blk_at hb9 (by simp)) (by kernel_rfl) (by simp [Value.oneCell']) ?_
        try simp only [Act.put, List.setIfInBounds_toArray, List.set_cons_zero, List.set_cons_succ]
        rw [hW9.out]
        go_wp2_with fail
        go_meet
        refine ⟨St.mk ⟨3, ⟨#[]⟩, 0⟩ ⟨some ⟨g, 0, none⟩, 2⟩ ⟨none, 0⟩ ⟨none, 0⟩ [(Ex.mk ⟨xk, xo, xv, xw, xn⟩ (⟨xA, xc⟩ : Loc) xs), (Ex.mk ⟨yk, yo, yv, yw, yn⟩ (⟨yA, yc⟩ : Loc) ys)] [] [], ?_, hbf.out, hL9.out, hLd.out, ?_, hO9.out⟩
        · rw [hp1.out, oneM_other (deep := deep) hxk.out hk11.out ho.out (by first | exact ho2.out | exact fun q => ho2.out ⟨trivial, q.2⟩) (by first | exact ho3.out | exact fun q => ho3.out ⟨trivial, q.2⟩) hxx.out hxy.out]
          show St.mk _ () () () (plains [(Ex.mk ⟨xk, xo, xv, xw, xn⟩ (⟨xA, xc⟩ : Loc) xs), (Ex.mk ⟨yk, yo, yv, yw, yn⟩ (⟨yA, yc⟩ : Loc) ys)]) (plainS []) (plainS []) = _
          rw [hpg.out]
          rfl
        · rw [hp1.out, oneM_other (deep := deep) hxk.out hk11.out ho.out (by first | exact ho2.out | exact fun q => ho2.out ⟨trivial, q.2⟩) (by first | exact ho3.out | exact fun q => ho3.out ⟨trivial, q.2⟩) hxx.out hxy.out]; exact hM9.out
      case rest =>
      clear hM1 hS1
      obtain ⟨L, hLp, hLb, hLo, hLd, hM2, hO2⟩ := hcut
      have hLg := hLo.ge
      have hsl := hLb.lt
      have hsr : wr.heap.size = s := hs.out
      have hLn : L.cells eT = St.cells eT L := rfl
      have hIown := hI'.out.own.keep hO2 (fun b hb hm => by rw [List.mem_singleton] at hm; have := (hI'.out.own.ge b hb).1; have := hI'.out.mks.nx.MB; omega)
      have hIge := hI'.out.own.ge
      obtain ⟨six, hsix⟩ : ∃ six, six = L.cells eT := ⟨_, rfl⟩
      have hsl6 : six.length = 6 := by rw [hsix, St.cells_len]
      have hlen := hI'.out.len
      obtain ⟨v0, v1, v2, v3, v4, v5, rfl⟩ : ∃ a b c d e f, six = [a, b, c, d, e, f] := by
        match six, hsl6 with
        | [a, b, c, d, e, f], _ => exact ⟨a, b, c, d, e, f, rfl⟩
      rw [← hsix] at hLb
      have h1c := L.cells_one eT
      rw [← hsix] at h1c
      have x0 := hLb.cell 0
      have x1 := hLb.cell 1
      have x2 := hLb.cell 2
      have x3 := hLb.cell 3
      have x4 := hLb.cell 4
      have x5 := hLb.cell 5
      simp only [List.getElem?_toArray, List.getElem?_cons_zero, List.getElem?_cons_succ] at x0 x1 x2 x3 x4 x5
      have hBx := (Below.refl _ wc).alloc (Nat.le_refl _) (.cells #[v0, v1, v2, v3, v4, v5] 51)
      have hrd := Reads.of_own (World.ownsRow_lit (base := wc.heap.size) (e := 51) (size := 6) wc #[v0, v1, v2, v3, v4, v5] 1 (Nat.le_refl _) (by simp [maxLen]) rfl)
      have hown4 := hIown.keep (only_of_below [] hBx) (by simp)
      have hL4 := hLo.keep (only_of_below [] hBx) (by simp)
      have hnd := hI'.out.nd
      have hM3 := hM2.new (Nat.le_trans hwB hO2.size) hBx
      have hO3 := hI'.out.on.trans (hO2.new hBx)
      have hdj : ∀ b ∈ Lst.fp ⟨tA, tc⟩ news, b ∉ L.fp := fun b hb hm => by have := (hIge b hb).2; have := (hLg b hm).1; omega
      have hrow4 := hown4.1
      dsimp only at hrow4
      rw [hlen] at hrow4
      have hwc : w.heap.size ≤ (wc.alloc (.cells #[v0, v1, v2, v3, v4, v5] 51)).heap.size := hO3.size
      have hBM : M < B := hM2.nx.MB
      replace hown4 := Lib.hid hown4
      replace hL4 := Lib.hid hL4
      replace hsix := Lib.hid hsix
      replace hM3 := Lib.hid hM3
      replace hO3 := Lib.hid hO3
      replace hnd := Lib.hid hnd
      replace hdj := Lib.hid hdj
      replace hIge := Lib.hid hIge
      replace hLg := Lib.hid hLg
      clear hIown hLo hM2 hO2 hBx hLn
      go_wp2_with (at_builtin; refine wpList_append_any _ rfl (.tmp 156) (.tmp 158) 33 rfl w.heap.size 51 i0 _ 6 104 Try.underlying33 hi.out hz0.out hz1.out hz2.out rfl (by omega) (.slice tA k tc) k (cellsS eT news) rfl hrow4 _ (some ⟨wc.heap.size, 0, none⟩) 1 1 [v0, v1, v2, v3, v4, v5] rfl hrd h1c (by simp only [maxLen]; omega) (by omega) hwc ?_; intro v6 w6 hown6 hg6 hb6)
      obtain ⟨A', c', rfl, hown7, hnd7⟩ := append_st (base := w.heap.size) hown4.out hnd.out (hL4.out.base_le (by omega)) hLd hdj.out (by rw [← hsix.out, hlen]; exact hown6) (by rw [hlen]; exact hg6) (by rw [hlen]; exact hb6)
      have hrb : ∀ b, (Value.slice tA k tc).ownBlock = some b → w.heap.size ≤ b := fun b hb => (hown4.out.ge b (List.mem_append_left _ ((own_fp ⟨tA, tc⟩ k b).2 hb))).1
      have hO7 := hO3.out.grown hg6 (fun b hb => .inr (hrb b hb))
      have hM7 := hM3.out.below ((Below.refl B _).grown hg6 (by omega) (fun b hb => by have := hrb b hb; omega))
      have hp7 : plainS (news ++ [L]) = pn ++ [p1.1] := by
        rw [plainS_map, List.map_append, ← plainS_map, hI'.out.pl, List.map_cons, List.map_nil, hLp]
      have hrep : rep (oneM e.p deep) (k + 1) r0 = (pn ++ [p1.1], p1.2) := rep_step _ hq.out hp1.out.symm
      replace hO7 := Lib.hid hO7
      replace hM7 := Lib.hid hM7
      replace hp7 := Lib.hid hp7
      replace hrep := Lib.hid hrep
      replace hown7 := Lib.hid hown7
      replace hnd7 := Lib.hid hnd7
      clear hown6 hg6 hb6 hrb
      go_wp2_with fail
      go_roundw
      case rel => exact ⟨k + 1, A', c', news ++ [L], by rw [hlen], by go_num, by omega, by rw [List.length_append, hlen]; rfl, by rw [hrep.out]; exact hp7.out, hown7.out, hnd7.out, by rw [hrep.out]; exact hM7.out, hO7.out⟩
      case measure => simp [intOf]; omega
    · obtain rfl : k = n := by omega
      have hlen := hI.len
      have hI' := Lib.hid hI
      clear hI
      go_wp2_with fail
      go_ret
      exact ⟨tA, tc, news, by rw [hlen]; rfl, hI'.out.pl, hI'.out.own, hI'.out.nd, hI'.out.mks, hI'.out.on⟩
theorem mstmts_ok : ∀ n, n ≤ 10 → StmtsOk n
  | 0, _ => stmts_any (by omega) (fun d h => by omega) (fun h => by omega)
  | n + 1, h => stmts_any h (fun d hd => (show n = d by omega) ▸ mstmts_ok n (by omega)) (fun _ => mstmts_ok 0 (by omega))
end Go.Proofs.Ytnldbplphgfpeaa
