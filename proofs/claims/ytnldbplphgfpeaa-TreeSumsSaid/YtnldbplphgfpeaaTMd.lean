/- The maker: Made. -/
import Derived.Test.YtnldbplphgfpeaaTMs
namespace Go.Proofs.Ytnldbplphgfpeaa
open Go Go.RowKit Go.Shelf
set_option linter.unusedVariables false
set_option linter.unusedSimpArgs false
set_option maxHeartbeats 8000000
/-- The cells of the maker. -/
def mkCells (d : Rd) (at_ : Int) (p : Pg Loc) (param : Bool) : Array Value := (.slice d.LA d.n d.c :: .int .i64 at_ :: (p.cells eT ++ [.bool param])).toArray
def zP : Array Value := #[.int .i64 0, .int .i64 0, .slice none 0 0, .slice none 0 0, .slice none 0 0, .slice none 0 0, .int .u8 0, .int .u8 0, .int .u32 0, .int .i64 0, .string ⟨#[]⟩, .slice none 0 0, .slice none 0 0, .slice none 0 0, .slice none 0 0, .slice none 0 0, .int .u8 0, .int .u8 0, .int .u32 0, .int .i64 0, .string ⟨#[]⟩, .slice none 0 0]
theorem Pg.cells_22 (p : Pg Loc) : (p.cells eT).length = 22 := by
  have := Pg.cells_len eT p
  simpa using this
/-- The maker at work: the result's cells, its own, what it reads. -/
structure MkB (w W : World) (R M : Nat) (d : Rd) (r : List Nat) (p : Pg Loc) (param : Bool) : Prop where
  blk : ∃ at_ : Nat, Blk W M 71 (mkCells d at_ p param) ∧ at_ ≤ d.n ∧ r = d.bytes.drop at_
  res : Blk W R 35 zP
  rd : Reads W M 1 d.LA d.n (d.bytes.map fun (b : Nat) => Value.int .u8 (b : Int))
  lt : ∀ b ∈ d.bytes, b < 256
  n2 : d.n ≤ 200
  wR : w.heap.size ≤ R
  RM : R < M
  be : Below w.heap.size w W
/-- And the program so far. -/
structure MkP (w W : World) (R M : Nat) (d : Rd) (r : List Nat) (p : Pg Loc) (param : Bool) : Prop where
  b : MkB w W R M d r p param
  own : p.own W (M + 1)
  nd : p.fp.Nodup
/-- What the maker knows, of the program so far. -/
def evOf (p : Pg Loc) (param : Bool) (wn : Nat) : Ev := ⟨⟨wn, p.ins, p.gh, p.va, param, decide (0 < p.procs.length)⟩, p.li, p.lg, p.lv, p.lpr, p.procs.length⟩
structure Sm (p : Pg Loc) (wn : Nat) : Prop where
  w : p.wd = (wn : Int)
  w1 : 1 ≤ wn
  w3 : wn ≤ 3
  ni : p.ins.length ≤ 2
  ng : p.gh.length ≤ 2
  nv : p.va.length ≤ 2
  np : p.procs.length ≤ 1
section
variable {w W W' : World} {R M : Nat} {d : Rd} {r r' : List Nat} {p p' : Pg Loc} {param param' : Bool} {wn : Nat}
theorem MkB.lt_size (h : MkB w W R M d r p param) : M < W.heap.size := by
  obtain ⟨a, h1, _⟩ := h.blk
  exact h1.lt
theorem MkP.lt_size (h : MkP w W R M d r p param) : M < W.heap.size := h.b.lt_size
theorem mkCells_at (d : Rd) (a : Int) (p : Pg Loc) (param : Bool) : (mkCells d 0 p param).setIfInBounds 1 (.int .i64 a) = mkCells d a p param := by
  unfold mkCells
  rw [List.setIfInBounds_toArray, List.set_cons_succ, List.set_cons_zero]
theorem mkCells_size (d : Rd) (a : Int) (p : Pg Loc) (param : Bool) : (mkCells d a p param).size = 25 := by
  unfold mkCells
  simp [Pg.cells_22]
theorem MkB.toNx (h : MkB w W R M d r p param) : Nx W.heap.size W M (mkCells d 0 p param) d r := by
  obtain ⟨a, h1, h2, h3⟩ := h.blk
  exact ⟨mkCells_size _ _ _ _, ⟨a, by rw [mkCells_at]; exact h1, h2, h3⟩, rfl, h.rd, h.lt, h.n2, h1.lt⟩
theorem MkP.toNx (h : MkP w W R M d r p param) : Nx W.heap.size W M (mkCells d 0 p param) d r := h.b.toNx
theorem MkP.of_nx (h : MkP w W R M d r p param) (k : Nx W.heap.size W' M (mkCells d 0 p param) d r') (ho : Only [M] W W') : MkP w W' R M d r' p param := by
  obtain ⟨a, h1, h2, h3⟩ := k.at_
  rw [mkCells_at] at h1
  have := h.b.RM
  have := h.b.wR
  exact ⟨⟨⟨a, h1, h2, h3⟩, h.b.res.only ho (by simp; omega), k.rd, h.b.lt, h.b.n2, h.b.wR, h.b.RM, h.b.be.trans (ho.below h.b.be.size (by simp; omega))⟩, (keep_pg _ p).only h.own ho (fun b hb hm => by rw [List.mem_singleton] at hm; have := (h.own.ge b hb).1; omega), h.nd⟩
theorem MkP.new (h : MkP w W R M d r p param) (hb : Below W.heap.size W W') : MkP w W' R M d r p param := h.of_nx (h.toNx.below hb) (only_of_below [M] hb)
theorem MkB.grown {row : Option Nat} (h : MkB w W R M d r p param) (hg : W.grownBy W' row) (hr : ∀ k, row = some k → M + 1 ≤ k) : MkB w W' R M d r p param := by
  obtain ⟨a, h1, h2, h3⟩ := h.blk
  have h4 := h.RM
  have h5 := h.wR
  exact ⟨⟨a, h1.grown hg (fun e => by have := hr M e.symm; omega), h2, h3⟩, h.res.grown hg (fun e => by have := hr R e.symm; omega), h.rd.grown hg (by have := h1.lt; omega) (fun k e => by have := hr k e; omega), h.lt, h.n2, h.wR, h.RM, h.be.grown hg h.be.size (fun k e => by have := hr k e; omega)⟩
theorem MkP.mk' (h : MkP w W R M d r p param) (s : Sm p wn) : Mk W.heap.size W M (mkCells d 0 p param) d (evOf p param wn) r := by
  refine ⟨h.toNx, ?_⟩
  have ho := h.own
  obtain ⟨bl, wd, li, ins, lg, gh, lv, va, la, ar, ⟨rh, rl, rs⟩, ln, inits, lpr, procs, lw, work, lr, recov, ⟨ih, il, is⟩⟩ := p
  have s1 := s.w
  dsimp only at s1
  have hw1 := s.w1
  have hw3 := s.w3
  have s2 := s.ni
  have s3 := s.ng
  have s4 := s.nv
  have s5 := s.np
  have hge : ∀ (l : Loc) (n : Nat), (∀ b ∈ l.fp, M + 1 ≤ b ∧ b < W.heap.size) → ∀ b ∈ l.blk n, b < W.heap.size ∧ b ≠ M := fun l n hl b hb => by
    have := hl b (blk_fp hb)
    exact ⟨this.2, by omega⟩
  subst s1
  refine { c3 := rfl, c4 := rfl, c5 := rfl, c6 := rfl, c15 := rfl, c24 := rfl, hP := rfl, ri := ho.ins.ok, rg := ho.gh.ok, rv := ho.va.ok, bi := hge _ _ ho.ins.ge, bg := hge _ _ ho.gh.ge, bv := hge _ _ ho.va.ge, w1 := hw1, w3 := hw3, ni := s2, ng := s3, nv := s4, np := s5 }
theorem MkB.cell (h : MkB w W R M d r p param) {i : Nat} {v : Value} (hi : i ≠ 1) (hc : (mkCells d 0 p param)[i]? = some v) : W.cell? ⟨M, i, none⟩ = some v := by
  obtain ⟨a, h1, _⟩ := h.blk
  rw [h1.cell i, ← mkCells_at, Array.getElem?_setIfInBounds_ne (by omega)]
  exact hc
theorem MkB.frozen (h : MkB w W R M d r p param) (i : Nat) : W.frozen? ⟨M, i, none⟩ = false := by
  obtain ⟨a, h1, _⟩ := h.blk
  exact h1.frozen i
theorem MkB.there (h : MkB w W R M d r p param) {i n : Nat} (hi : i + n ≤ 25) : W.there M i n := by
  obtain ⟨a, h1, _⟩ := h.blk
  exact there_blk_at h1 (by rw [mkCells_size]; exact hi)
/-- A cell of the maker is written over. -/
theorem MkB.put (h : MkB w W R M d r p param) (i : Nat) (v : Value) (hc : ∀ a : Nat, (mkCells d a p param).setIfInBounds i v = mkCells d a p' param') (ho : p'.own W (M + 1)) (hn : p'.fp.Nodup) : MkP w (W.setCell ⟨M, i, none⟩ v) R M d r p' param' := by
  obtain ⟨a, h1, h2, h3⟩ := h.blk
  have hO : Only [M] W (W.setCell ⟨M, i, none⟩ v) := (Only.refl [M] W).setCell (.inl (by simp)) v
  have := h.RM
  have := h.wR
  exact ⟨⟨⟨a, by rw [← hc a]; exact h1.set_ i v, h2, h3⟩, h.res.only hO (by simp; omega), h.rd.setCell (Nat.le_refl _) v, h.lt, h.n2, h.wR, h.RM, h.be.trans (hO.below h.be.size (by simp; omega))⟩, (keep_pg _ p').only ho hO (fun b hb hm => by rw [List.mem_singleton] at hm; have := (ho.ge b hb).1; omega), hn⟩
theorem reads_setCells {B size n : Nat} {A : Option Addr} {xs : List Value} {g : Nat} (hB : B ≤ g) : ∀ (vs : List Value) (o : Nat) (W : World), Reads W B size A n xs → Reads (W.setCells g o vs) B size A n xs
  | [], _, _, h => h
  | v :: vs, o, W, h => by
    rw [World.setCells]
    exact reads_setCells hB vs (o + 1) _ (h.setCell (by exact hB) v)
/-- Cells of the maker are written over. -/
theorem MkB.puts (h : MkB w W R M d r p param) (i : Nat) (vs old pre post : List Value) (hi : pre.length = i) (hl : old.length = vs.length) (h0 : ∀ a : Nat, mkCells d a p param = ((.slice d.LA d.n d.c :: .int .i64 a :: pre) ++ (old ++ post)).toArray) (hc : ∀ a : Nat, mkCells d a p' param' = ((.slice d.LA d.n d.c :: .int .i64 a :: pre) ++ (vs ++ post)).toArray)
    (ho : p'.own W (M + 1)) (hn : p'.fp.Nodup) : MkP w (W.setCells M (i + 2) vs) R M d r p' param' := by
  obtain ⟨a, h1, h2, h3⟩ := h.blk
  have hO : Only [M] W (W.setCells M (i + 2) vs) := only_setCells vs _ W
  have := h.RM
  have := h.wR
  rw [h0 a] at h1
  exact ⟨⟨⟨a, by rw [hc a]; exact blk_setCells vs old _ post (i + 2) W h1 (by simp [hi]) hl, h2, h3⟩, h.res.only hO (by simp; omega), reads_setCells (Nat.le_refl _) vs _ W h.rd, h.lt, h.n2, h.wR, h.RM, h.be.trans (hO.below h.be.size (by simp; omega))⟩, (keep_pg _ p').only ho hO (fun b hb hm => by rw [List.mem_singleton] at hm; have := (ho.ge b hb).1; omega), hn⟩
-- the calls
theorem MkP.next' (h : MkP w W R M d r p param) (n : Nat) (hn : 0 < n) (hn2 : n ≤ 1000) : Calls Try.prog 32 #[.pointer (some ⟨M, 0, none⟩), .int .i64 n] W fun x W' => x = .returned (.int .i64 (nx n r).1) ∧ MkP w W' R M d (nx n r).2 p param ∧ Only [M] W W' :=
  (next_ok n hn hn2 _ M _ d r W h.toNx).mono fun x W' ⟨h1, h2, h3⟩ => ⟨h1, h.of_nx h2 h3, h3⟩
theorem MkP.expr (h : MkP w W R M d r p param) (s : Sm p wn) (deep width wh : Nat) (hd : deep ≤ 10) (h1 : 1 ≤ width) (h3 : width ≤ 3) (hh : wh ≤ 2) : Calls Try.prog 33 #[.pointer (some ⟨M, 0, none⟩), .int .i64 width, .int .i64 wh, .int .i64 deep] W fun x W' =>
    ∃ zk zo zv zw zn zA zc zs, x = .returned (.agg #[.int .u8 zk, .int .u8 zo, .int .u32 zv, .int .i64 zw, .string zn, .slice zA (zs : List (Ex Loc)).length zc]) ∧ (Ex.mk ⟨zk, zo, zv, zw, zn⟩ (⟨zA, zc⟩ : Loc) zs).plain = (exprM (evOf p param wn).p deep width wh r).1 ∧
      (Ex.mk ⟨zk, zo, zv, zw, zn⟩ ⟨zA, zc⟩ zs).own eT W' W.heap.size ∧ (Ex.mk ⟨zk, zo, zv, zw, zn⟩ ⟨zA, zc⟩ zs).fp.Nodup ∧ MkP w W' R M d (exprM (evOf p param wn).p deep width wh r).2 p param ∧ Only [M] W W' :=
  (expr_ok deep hd width wh h1 h3 hh _ M _ d _ r W (h.mk' s) (Nat.le_refl _)).mono fun x W' ⟨zk, zo, zv, zw, zn, zA, zc, zs, e1, e2, e3, e4, e5, e6⟩ => ⟨zk, zo, zv, zw, zn, zA, zc, zs, e1, e2, e3, e4, h.of_nx e5.nx e6, e6⟩
theorem MkP.stmts (h : MkP w W R M d r p param) (s : Sm p wn) (most deep : Nat) (hm : most ≤ 5) (hd : deep ≤ 10) : Calls Try.prog 34 #[.pointer (some ⟨M, 0, none⟩), .int .i64 most, .int .i64 deep] W fun x W' =>
    ∃ (tA : Option Addr) (tc : Nat) (news : List (St Loc)), x = .returned (.slice tA news.length tc) ∧ plainS news = (stmtsM (evOf p param wn).p most deep r).1 ∧ Lst.own eT W' W.heap.size ⟨tA, tc⟩ news ∧ (Lst.fp ⟨tA, tc⟩ news).Nodup ∧ MkP w W' R M d (stmtsM (evOf p param wn).p most deep r).2 p param ∧ Only [M] W W' :=
  (mstmts_ok deep hd most hm _ M _ d _ r W (h.mk' s) (Nat.le_refl _)).mono fun x W' ⟨tA, tc, news, e1, e2, e3, e4, e5, e6⟩ => ⟨tA, tc, news, e1, e2, e3, e4, h.of_nx e5.nx e6, e6⟩
end
/-- A literal list of declarations. -/
theorem ldc_lit {W : World} {g base : Nat} {l : List Dc} {cells : Array Value} (hb : Blk W g 60 cells) (hc : cells = (cellsD l).toArray) (hg : base ≤ g) (hn : l.length ≤ 1000) : Ldc.own W base ⟨some ⟨g, 0, none⟩, l.length⟩ l := by
  subst hc
  have := own_of_blk (n := l.length) (base := base) (size := 3) hb hg (by simp [maxLen]; omega) (by simp [cellsD_len])
  show W.ownsRow base 60 3 (.slice (some ⟨g, 0, none⟩) l.length l.length) l.length (cellsD l)
  simpa using this
/-- Its head. -/
theorem ldc_take {W : World} {g base : Nat} {x y : Dc} {ins : List Dc} (hb : Blk W g 60 (cellsD [x, y]).toArray) (hg : base ≤ g) (hl : ins.length ≤ 2) (hi : ins = [x, y].take ins.length) : Ldc.own W base ⟨some ⟨g, 0, none⟩, 2⟩ ins := by
  refine ⟨by rw [cellsD_len], .inr ⟨g, 2, _, rfl, hg, hb, hl, by simp [maxLen], by simp [cellsD_len], ?_⟩⟩
  have h : ins.length = 0 ∨ ins.length = 1 ∨ ins.length = 2 := by omega
  rcases h with h | h | h <;> rw [h] at hi <;> subst hi <;> rfl
theorem madeM_eq {l r1 r2 r3 r4 r5 r6 r7 r8 : List Nat} {a1 a2 a4 a5 f : Nat} {ins : List Dc} {q : Ex Unit} {is : List (In Unit)} {procs : List (Pr Unit)} {r9 r10 r11 r12 : List Nat} {k c : List (St Unit)} {v : Ex Unit} {e0 : EvP}
    (h1 : nx 3 (l.take 200) = (a1, r1)) (h2 : nx 3 r1 = (a2, r2)) (h3 : nx 3 r2 = (ins.length, r3)) (hi : ins = ([⟨sI, ((1 + a2 : Nat) : Int), 0⟩, ⟨sJ, 1, 0⟩] : List Dc).take ins.length) (h4 : nx 2 r3 = (a4, r4)) (h5 : nx 3 r4 = (a5, r5))
    (he : e0 = ⟨1 + a2, ins, [⟨sG, ((1 + a2 : Nat) : Int), 0⟩, ⟨sH, 1, 0⟩], [⟨sV, ((1 + a2 : Nat) : Int), 0⟩, ⟨sC, 2, 0⟩], false, false⟩)
    (h6 : (if a5 = 0 then exprM e0 2 1 1 r5 else (numE 1 1, r5)) = (q, r6)) (h7 : initsM e0 (1 + a1) r6 = (is, r7)) (h8 : nx 2 r7 = (f, r8))
    (h9 : procs = if f = 1 then [⟨sP, (), [⟨sX, ((1 + a2 : Nat) : Int), 0⟩], (), (stmtsM { e0 with param := true } 3 1 r8).1⟩] else []) (h10 : r9 = if f = 1 then (stmtsM { e0 with param := true } 3 1 r8).2 else r8)
    (h11 : stmtsM { e0 with hasP := decide (f = 1) } 5 2 r9 = (k, r10)) (h12 : stmtsM { e0 with hasP := decide (f = 1) } 3 1 r10 = (c, r11)) (h13 : exprM { e0 with hasP := decide (f = 1) } 3 1 2 r11 = (v, r12)) :
    madeM l = ⟨((1 + a1 : Nat) : Int), ((1 + a2 : Nat) : Int), (), ins, (), [⟨sG, ((1 + a2 : Nat) : Int), 0⟩, ⟨sH, 1, 0⟩], (), [⟨sV, ((1 + a2 : Nat) : Int), 0⟩, ⟨sC, 2, 0⟩], (), [⟨sA, ((1 + a2 : Nat) : Int), ((2 + a4 : Nat) : Int)⟩], q, (), is, (), procs, (), k, (), c, v⟩ := by
  subst he h9 h10
  unfold madeM
  simp only [h1, h2, h3, h4, h5, ← hi, h6, h7, h8, h11, h12, h13]
theorem nodup_add {a x b : List Nat} (ha : a.Nodup) (hx : x.Nodup) (hd : ∀ y ∈ a, y ∉ x) (hc : ∀ y, b.count y = a.count y + x.count y) : b.Nodup :=
  nodup_perm (a := a ++ x) (List.nodup_append.2 ⟨ha, hx, fun y hy z hz e => hd y hy (by rw [e]; exact hz)⟩) (fun y => by rw [hc y, List.count_append])
/-- One more at the end of a list of initial values of one's own. -/
theorem append_in {W1 W2 : World} {base : Nat} {A : Option Addr} {c : Nat} {news : List (In Loc)} {x : In Loc} {v : Value} (ho : Lin.own W1 base ⟨A, c⟩ news) (hn : (Lin.fp ⟨A, c⟩ news).Nodup) (hL : x.val.own eT W1 base) (hLn : x.val.fp.Nodup) (hdj : ∀ b ∈ Lin.fp ⟨A, c⟩ news, b ∉ x.val.fp)
    (hrow : W2.ownsRow base 44 7 v (news.length + 1) (cellsI eT news ++ x.cells eT)) (hg : W1.grownBy W2 (Value.slice A news.length c).ownBlock) (hb : v.ownBlock = (Value.slice A news.length c).ownBlock ∨ v.ownBlock = some W1.heap.size) :
    ∃ A' c', v = .slice A' (news.length + 1) c' ∧ Lin.own W2 base ⟨A', c'⟩ (news ++ [x]) ∧ (Lin.fp ⟨A', c'⟩ (news ++ [x])).Nodup ∧ (∀ b ∈ Lin.fp ⟨A', c'⟩ (news ++ [x]), b ∈ Lin.fp ⟨A, c⟩ news ∨ b ∈ x.val.fp ∨ b = W1.heap.size) := by
  obtain ⟨A', c', rfl⟩ := own_form hrow
  have hof : ∀ b, b ∈ (Loc.mk A c).fp ↔ (Value.slice A news.length c).ownBlock = some b := fun b => own_fp ⟨A, c⟩ news.length b
  have hof' : ∀ b, b ∈ (Loc.mk A' c').fp ↔ (Value.slice A' (news.length + 1) c').ownBlock = some b := fun b => own_fp ⟨A', c'⟩ _ b
  have hn2 := List.nodup_append.1 hn
  have hne1 : ∀ b ∈ fpsI news, some b ≠ (Value.slice A news.length c).ownBlock := fun b hb' e => hn2.2.2 b ((hof b).2 e.symm) b hb' rfl
  have hne2 : ∀ b ∈ x.val.fp, some b ≠ (Value.slice A news.length c).ownBlock := fun b hb' e => hdj b (List.mem_append_left _ ((hof b).2 e.symm)) hb'
  have e1 : fpsI [x] = x.val.fp := by simp [fpsI]
  refine ⟨A', c', rfl, ⟨?_, ?_⟩, ?_, ?_⟩
  · rw [List.length_append, cellsI_append]
    have : cellsI eT [x] = x.cells eT := by simp [cellsI]
    rw [this]
    exact hrow
  · intro y hy
    rcases List.mem_append.1 hy with hy | hy
    · have hox := ho.2 y hy
      exact hox.same fun b hm => hg.block b (hox.ge b hm).2 (hne1 b (List.mem_flatMap.2 ⟨y, hy, hm⟩))
    · rw [List.mem_singleton] at hy
      subst hy
      exact hL.same fun b hm => hg.block b (hL.ge b hm).2 (hne2 b hm)
  · show ((Loc.mk A' c').fp ++ fpsI (news ++ [x])).Nodup
    rw [fpsI_append, e1]
    refine List.nodup_append.2 ⟨Loc.fp_nodup _, List.nodup_append.2 ⟨hn2.2.1, hLn, fun a ha b hb' e => hdj a (List.mem_append_right _ ha) (by rw [e]; exact hb')⟩, fun a ha b hb' e => ?_⟩
    subst e
    have h1 := (hof' a).1 ha
    rcases hb with hb | hb
    · rw [h1] at hb
      rcases List.mem_append.1 hb' with hb' | hb'
      · exact hne1 a hb' hb
      · exact hne2 a hb' hb
    · rw [h1] at hb
      injection hb with hb
      rcases List.mem_append.1 hb' with hb' | hb'
      · have := (ownsI_ge ho.2 a hb').2; omega
      · have := (hL.ge a hb').2; omega
  · intro b hb'
    rcases List.mem_append.1 hb' with hb' | hb'
    · have h1 := (hof' b).1 hb'
      rcases hb with hb | hb
      · exact .inl (List.mem_append_left _ ((hof b).2 (by rw [← hb, h1])))
      · rw [h1] at hb
        injection hb with hb
        exact .inr (.inr hb)
    · rw [fpsI_append, e1] at hb'
      rcases List.mem_append.1 hb' with hb' | hb'
      · exact .inl (List.mem_append_right _ hb')
      · exact .inr (.inl hb')
theorem nodup_disj {a x b : List Nat} (hb : b.Nodup) (hc : ∀ y, b.count y = a.count y + x.count y) : a.Nodup ∧ x.Nodup ∧ ∀ y ∈ a, y ∉ x := by
  have h := nodup_perm (b := a ++ x) hb (fun y => by rw [List.count_append, hc y])
  have h1 := List.nodup_append.1 h
  exact ⟨h1.1, h1.2.1, fun y hy hx => h1.2.2 y hy y hx rfl⟩
theorem initsM_no {e : EvP} {k : Nat} {r r1 r2 : List Nat} {l : List (In Unit)} {a : Nat} (h : initsM e k r = (l, r1)) (ha : nx 3 r1 = (a, r2)) (h0 : a ≠ 0) : initsM e (k + 1) r = (l, r2) := by
  simp only [initsM, h, ha]
  rw [if_neg h0]
theorem initsM_yes {e : EvP} {k : Nat} {r r1 r2 r3 : List Nat} {l : List (In Unit)} {x : Ex Unit} (h : initsM e k r = (l, r1)) (ha : nx 3 r1 = (0, r2)) (hx : exprM e 1 e.w 1 r2 = (x, r3)) : initsM e (k + 1) r = (l ++ [⟨k, x⟩], r3) := by
  simp only [initsM, h, ha, if_true, hx]
theorem info_init : (Try.prog.info? 44).map (fun i => (i.zero, i.size, i.bytes)) = some (some (.agg #[.int .i64 0, .int .u8 0, .int .u8 0, .int .u32 0, .int .i64 0, .string ⟨#[]⟩, .slice none 0 0]), 7, 64) := by kernel_rfl
theorem lpr_lit {W : World} {g base : Nat} {l : List (Pr Loc)} {cells : Array Value} (hb : Blk W g 46 cells) (hc : cells = (cellsP l).toArray) (hg : base ≤ g) (hn : l.length ≤ 1000) (ho : ownsP W base l) : Lpr.own W base ⟨some ⟨g, 0, none⟩, l.length⟩ l := by
  subst hc
  have := own_of_blk (n := l.length) (base := base) (size := 3) hb hg (by simp [maxLen]; omega) (by simp [cellsP_len])
  refine ⟨?_, ho⟩
  show W.ownsRow base 46 3 (.slice (some ⟨g, 0, none⟩) l.length l.length) l.length (cellsP l)
  simpa using this
theorem cellsI_one1 (k : Int) (x : Ex Loc) : ∀ u ∈ cellsI eT [(⟨k, x⟩ : In Loc)], u.oneCell' = true := by
  intro u hu
  simp only [cellsI, List.flatMap_cons, List.flatMap_nil, List.append_nil, In.cells, List.mem_cons] at hu
  rcases hu with rfl | hu
  · rfl
  · exact x.cells_one eT u hu
theorem range_mid {W : World} {g t o : Nat} {cs : Array Value} {pre vs post : List Value} (h : Blk W g t cs) (hc : cs = (pre ++ (vs ++ post)).toArray) (ho : pre.length = o) : W.rangeAt g o vs := fun j v hv => by
  have hj : j < vs.length := (List.getElem?_eq_some_iff.1 hv).1
  rw [h.cell (o + j), hc, List.getElem?_toArray, List.getElem?_append_right (by omega), ho, Nat.add_sub_cancel_left, List.getElem?_append_left hj]
  exact hv
set_option maxRecDepth 100000 in
theorem made_ok (A : Option Addr) (n c : Nat) (bytes : List Nat) (w : World) (hrd : Reads w w.heap.size 1 A n (bytes.map fun (b : Nat) => Value.int .u8 (b : Int))) (hlt : ∀ b ∈ bytes, b < 256) (hnc : n ≤ c) (hcm : c ≤ 9223372036854775807) :
    Calls Try.prog 9 #[.slice A n c] w fun x w' => ∃ L : Pg Loc, x = .returned (aggP L) ∧ L.plain = madeM bytes ∧ L.own w' w.heap.size ∧ L.fp.Nodup ∧ Below w.heap.size w w' := by
  obtain ⟨R, hR⟩ : ∃ R, w.heap.size = R := ⟨_, rfl⟩
  obtain ⟨M, hM⟩ : ∃ M, M = R + 1 := ⟨_, rfl⟩
  have hB0 := (Below.refl w.heap.size w).alloc (Nat.le_refl _) (.cells zP 35)
  have hb0 := Blk.new w 35 zP
  have hs0 : (w.alloc (.cells zP 35)).heap.size = w.heap.size + 1 := by simp
  have n0 : (n : Int) ≤ (c : Int) := by omega
  have c0 : (c : Int) ≤ 9223372036854775807 := by omega
  have hbl : bytes.length = n := by have := hrd.1; simpa using this
  unfold zP at hB0 hb0 hs0
  go_enter Try.func9, Try.ntmps9
  go_upto_region 1 with (fail)
  obtain ⟨d, hd⟩ : ∃ d : Rd, d = ⟨A, min n 200, c, bytes.take 200⟩ := ⟨_, rfl⟩
  generalize w.alloc (.cells #[.int .i64 0, .int .i64 0, .slice none 0 0, .slice none 0 0, .slice none 0 0, .slice none 0 0, .int .u8 0, .int .u8 0, .int .u32 0, .int .i64 0, .string ⟨#[]⟩, .slice none 0 0, .slice none 0 0, .slice none 0 0, .slice none 0 0, .slice none 0 0, .int .u8 0, .int .u8 0, .int .u32 0, .int .i64 0, .string ⟨#[]⟩, .slice none 0 0] 35) = W00 at *
  have hrd0 := (hrd.below hB0)
  rw [hR] at hb0
  try rw [hR]
  obtain ⟨r0, hr0⟩ : ∃ r0, r0 = bytes.take 200 := ⟨_, rfl⟩
  have hrest : ∀ m : Nat, m = min n 200 → MkP w (W00.alloc (.cells (mkCells ⟨A, m, c, bytes.take 200⟩ 0 (⟨0, 0, ⟨none, 0⟩, [], ⟨none, 0⟩, [], ⟨none, 0⟩, [], ⟨none, 0⟩, [], (Ex.mk ⟨0, 0, 0, 0, ⟨#[]⟩⟩ ⟨none, 0⟩ []), ⟨none, 0⟩, [], ⟨none, 0⟩, [], ⟨none, 0⟩, [], ⟨none, 0⟩, [], (Ex.mk ⟨0, 0, 0, 0, ⟨#[]⟩⟩ ⟨none, 0⟩ [])⟩ : Pg Loc) false) 71)) R M d r0 (⟨0, 0, ⟨none, 0⟩, [], ⟨none, 0⟩, [], ⟨none, 0⟩, [], ⟨none, 0⟩, [], (Ex.mk ⟨0, 0, 0, 0, ⟨#[]⟩⟩ ⟨none, 0⟩ []), ⟨none, 0⟩, [], ⟨none, 0⟩, [], ⟨none, 0⟩, [], ⟨none, 0⟩, [], (Ex.mk ⟨0, 0, 0, 0, ⟨#[]⟩⟩ ⟨none, 0⟩ [])⟩ : Pg Loc) false := fun m hm => by
    subst hm
    have hbM := Blk.new W00 71 (mkCells ⟨A, min n 200, c, bytes.take 200⟩ 0 (⟨0, 0, ⟨none, 0⟩, [], ⟨none, 0⟩, [], ⟨none, 0⟩, [], ⟨none, 0⟩, [], (Ex.mk ⟨0, 0, 0, 0, ⟨#[]⟩⟩ ⟨none, 0⟩ []), ⟨none, 0⟩, [], ⟨none, 0⟩, [], ⟨none, 0⟩, [], ⟨none, 0⟩, [], (Ex.mk ⟨0, 0, 0, 0, ⟨#[]⟩⟩ ⟨none, 0⟩ [])⟩ : Pg Loc) false)
    have hBM := (Below.refl _ W00).alloc (Nat.le_refl _) (.cells (mkCells ⟨A, min n 200, c, bytes.take 200⟩ 0 (⟨0, 0, ⟨none, 0⟩, [], ⟨none, 0⟩, [], ⟨none, 0⟩, [], ⟨none, 0⟩, [], (Ex.mk ⟨0, 0, 0, 0, ⟨#[]⟩⟩ ⟨none, 0⟩ []), ⟨none, 0⟩, [], ⟨none, 0⟩, [], ⟨none, 0⟩, [], ⟨none, 0⟩, [], (Ex.mk ⟨0, 0, 0, 0, ⟨#[]⟩⟩ ⟨none, 0⟩ [])⟩ : Pg Loc) false) 71)
    have eM : W00.heap.size = M := by omega
    rw [eM] at hbM
    subst hd
    have hsub : Reads W00 w.heap.size 1 A (min n 200) ((bytes.take 200).map fun (b : Nat) => Value.int .u8 (b : Int)) := by
      refine ⟨by simp [hbl]; omega, fun hp => ?_⟩
      obtain ⟨ad, h1, h2, h3⟩ := hrd0.2 (by omega)
      refine ⟨ad, h1, h2, fun j u hu => h3 j u ?_⟩
      rw [List.map_take, List.getElem?_take] at hu
      split at hu
      · exact hu
      · cases hu
    refine ⟨⟨⟨0, hbM, Nat.zero_le _, by rw [hr0]; rfl⟩, hb0.below hBM hb0.lt, ((hsub.more (by omega)).below (B := M) (hBM.mono (by omega))), fun b hb => hlt b (List.mem_of_mem_take hb), by dsimp only; omega, by omega, by omega, below_and hB0 hBM⟩, ?_, ?_⟩
    · exact ⟨World.ownsRow_nil _ _ _ _, World.ownsRow_nil _ _ _ _, World.ownsRow_nil _ _ _ _, World.ownsRow_nil _ _ _ _, ⟨World.ownsRow_nil _ _ _ _, trivial⟩, ⟨World.ownsRow_nil _ _ _ _, fun x hx => by cases hx⟩, ⟨World.ownsRow_nil _ _ _ _, fun x hx => by cases hx⟩, ⟨World.ownsRow_nil _ _ _ _, trivial⟩, ⟨World.ownsRow_nil _ _ _ _, trivial⟩, ⟨World.ownsRow_nil _ _ _ _, trivial⟩⟩
    · exact List.nodup_nil
  have eM : W00.heap.size = M := by omega
  have hR' : R + 1 = M := by omega
  simp only [mkCells, Pg.cells, Ex.cells, eT, List.cons_append, List.nil_append, List.length_nil] at hrest
  replace hrest := Lib.hid hrest
  replace hd := Lib.hid hd
  have hrd' := Lib.hid hrd
  have hr0' := Lib.hid hr0
  have eM' := Lib.hid eM
  replace hR' := Lib.hid hR'
  replace hM := Lib.hid hM
  clear hrd hrd0 hr0 hB0 hb0 hs0 hlt eM
  go_cut [3] from 6 to 12 (fun v3 wx => v3 = .pointer (some ⟨M, 0, none⟩) ∧ MkP w wx R M d r0 (⟨0, 0, ⟨none, 0⟩, [], ⟨none, 0⟩, [], ⟨none, 0⟩, [], ⟨none, 0⟩, [], (Ex.mk ⟨0, 0, 0, 0, ⟨#[]⟩⟩ ⟨none, 0⟩ []), ⟨none, 0⟩, [], ⟨none, 0⟩, [], ⟨none, 0⟩, [], ⟨none, 0⟩, [], (Ex.mk ⟨0, 0, 0, 0, ⟨#[]⟩⟩ ⟨none, 0⟩ [])⟩ : Pg Loc) false)
  case first =>
    by_cases h2 : n ≤ 200
    · have hq := hrest.out n (by omega)
      have h3 : (n : Int) ≤ 200 := by omega
      replace hq := Lib.hid hq
      go_wp2_with fail
      go_meet
      rw [eM'.out]
      exact ⟨rfl, hq.out⟩
    · have hq := hrest.out 200 (by omega)
      have h3 : ¬ (n : Int) ≤ 200 := by omega
      replace hq := Lib.hid hq
      go_wp2_with fail
      go_meet
      rw [eM'.out]
      exact ⟨rfl, hq.out⟩
  case rest =>
  obtain ⟨rfl, hP⟩ := hcut
  clear hrest
  obtain ⟨W0, hW0⟩ : ∃ W, W = wc := ⟨_, rfl⟩
  rw [← hW0] at hP ⊢
  clear hW0
  have hRM := hP.b.RM
  obtain ⟨⟨a1, r1⟩, hxa1⟩ : ∃ p, nx 3 r0 = p := ⟨_, rfl⟩
  have hlta1 := nx_lt (n := 3) (by omega) r0
  have hc := hP.next' 3 (by omega) (by omega)
  rw [hxa1] at hc hlta1
  dsimp only at hc hlta1
  replace hxa1 := Lib.hid hxa1
  replace hc := Lib.hid hc
  have hMl := hP.lt_size
  have hP' := Lib.hid hP
  clear hP
  go_wp2_with fail
  refine hc.out.mono ?_
  rintro xx V1 ⟨rfl, hP, hO⟩
  clear hc hP' hMl hO
  obtain ⟨⟨a2, r2⟩, hxa2⟩ : ∃ p, nx 3 r1 = p := ⟨_, rfl⟩
  have hlta2 := nx_lt (n := 3) (by omega) r1
  have hc := hP.next' 3 (by omega) (by omega)
  rw [hxa2] at hc hlta2
  dsimp only at hc hlta2
  replace hxa2 := Lib.hid hxa2
  replace hc := Lib.hid hc
  have hMl := hP.lt_size
  have hP' := Lib.hid hP
  clear hP
  go_wp2_with fail
  refine hc.out.mono ?_
  rintro xx V2 ⟨rfl, hP, hO⟩
  clear hc hP' hMl hO
  obtain ⟨bl, hbl'⟩ : ∃ bl, bl = 1 + a1 := ⟨_, rfl⟩
  obtain ⟨wn, hwn⟩ : ∃ wn, wn = 1 + a2 := ⟨_, rfl⟩
  have eb : 1 + (a1 : Int) = (bl : Int) := by omega
  have ew : 1 + (a2 : Int) = (wn : Int) := by omega
  have a10 : 0 ≤ (a1 : Int) := by omega
  have a20 : 0 ≤ (a2 : Int) := by omega
  have bl3 : bl ≤ 3 := by omega
  have w1 : 1 ≤ wn := by omega
  have w3 : wn ≤ 3 := by omega
  have hst : MkP w ((V2.setCell ⟨M, 2, none⟩ (.int .i64 bl)).setCell ⟨M, 3, none⟩ (.int .i64 wn)) R M d r2 (⟨(bl : Int), (wn : Int), ⟨none, 0⟩, [], ⟨none, 0⟩, [], ⟨none, 0⟩, [], ⟨none, 0⟩, [], (Ex.mk ⟨0, 0, 0, 0, ⟨#[]⟩⟩ ⟨none, 0⟩ []), ⟨none, 0⟩, [], ⟨none, 0⟩, [], ⟨none, 0⟩, [], ⟨none, 0⟩, [], (Ex.mk ⟨0, 0, 0, 0, ⟨#[]⟩⟩ ⟨none, 0⟩ [])⟩ : Pg Loc) false :=
    (hP.b.put (p' := (⟨(bl : Int), 0, ⟨none, 0⟩, [], ⟨none, 0⟩, [], ⟨none, 0⟩, [], ⟨none, 0⟩, [], (Ex.mk ⟨0, 0, 0, 0, ⟨#[]⟩⟩ ⟨none, 0⟩ []), ⟨none, 0⟩, [], ⟨none, 0⟩, [], ⟨none, 0⟩, [], ⟨none, 0⟩, [], (Ex.mk ⟨0, 0, 0, 0, ⟨#[]⟩⟩ ⟨none, 0⟩ [])⟩ : Pg Loc)) 2 (.int .i64 bl) (fun _ => rfl) ⟨hP.own.ins, hP.own.gh, hP.own.va, hP.own.ar, hP.own.req, hP.own.inits, hP.own.procs, hP.own.work, hP.own.recov, hP.own.inv⟩ hP.nd).b.put 3 (.int .i64 wn) (fun _ => rfl) ((keep_pg (M + 1) (⟨(bl : Int), (wn : Int), ⟨none, 0⟩, [], ⟨none, 0⟩, [], ⟨none, 0⟩, [], ⟨none, 0⟩, [], (Ex.mk ⟨0, 0, 0, 0, ⟨#[]⟩⟩ ⟨none, 0⟩ []), ⟨none, 0⟩, [], ⟨none, 0⟩, [], ⟨none, 0⟩, [], ⟨none, 0⟩, [], (Ex.mk ⟨0, 0, 0, 0, ⟨#[]⟩⟩ ⟨none, 0⟩ [])⟩ : Pg Loc)).only ⟨hP.own.ins, hP.own.gh, hP.own.va, hP.own.ar, hP.own.req, hP.own.inits, hP.own.procs, hP.own.work, hP.own.recov, hP.own.inv⟩ ((Only.refl [M] _).setCell (.inl (by simp)) (.int .i64 bl)) (fun b hb => by cases hb)) hP.nd
  have cM := hP.b.cell (i := 2) (by omega) (v := .int .i64 0) rfl
  have cM' := hP.b.cell (i := 3) (by omega) (v := .int .i64 0) rfl
  have fM := hP.b.frozen 2
  have fM' := hP.b.frozen 3
  have hMl := hP.lt_size
  replace hst := Lib.hid hst
  have hP' := Lib.hid hP
  replace hbl' := Lib.hid hbl'
  replace hwn := Lib.hid hwn
  replace eb := Lib.hid eb
  replace ew := Lib.hid ew
  clear hP
  go_upto_region 3 with (fail)
  rw [eb.out, ew.out]
  clear cM cM' fM fM' hMl hP'
  have hP := hst.out
  clear hst
  generalize (V2.setCell ⟨M, 2, none⟩ (.int .i64 bl)).setCell ⟨M, 3, none⟩ (.int .i64 wn) = V3 at *
  have w1i : 1 ≤ (wn : Int) := by omega
  have w3i : (wn : Int) ≤ 3 := by omega
  have cM := hP.b.cell (i := 3) (by omega) (v := .int .i64 wn) rfl
  have hMl := hP.lt_size
  have hBx := (Below.refl _ V3).alloc (Nat.le_refl _) (.cells #[.string ⟨#[105]⟩, .int .i64 wn, .int .i64 0, .string ⟨#[106]⟩, .int .i64 1, .int .i64 0] 60)
  have hbg := Blk.new V3 60 #[.string ⟨#[105]⟩, .int .i64 wn, .int .i64 0, .string ⟨#[106]⟩, .int .i64 1, .int .i64 0]
  obtain ⟨gi, hgi⟩ : ∃ g, V3.heap.size = g := ⟨_, rfl⟩
  have hgM : M < gi := by omega
  have hP4 := hP.new hBx
  rw [hgi] at hbg
  obtain ⟨⟨ki, r3⟩, hxki⟩ : ∃ p, nx 3 r2 = p := ⟨_, rfl⟩
  have hltki := nx_lt (n := 3) (by omega) r2
  have hc := hP4.next' 3 (by omega) (by omega)
  rw [hxki] at hc hltki
  dsimp only at hc hltki
  replace hxki := Lib.hid hxki
  replace hc := Lib.hid hc
  replace hP4 := Lib.hid hP4
  have hgi' := Lib.hid hgi
  clear hP
  go_wp2_with fail
  refine hc.out.mono ?_
  rintro xx V4 ⟨rfl, hP, hO⟩
  replace hbg := hbg.only hO (by simp; omega)
  clear hc hP4 hMl hO cM hBx hgi
  obtain ⟨ins, hins⟩ : ∃ ins, ins = ([⟨sI, wn, 0⟩, ⟨sJ, 1, 0⟩] : List Dc).take ki := ⟨_, rfl⟩
  have hil : ki = ins.length := by rw [hins, List.length_take]; simp; omega
  have hil2 : ins.length ≤ 2 := by omega
  subst hil
  have hLi := ldc_take (base := M + 1) hbg (by omega) hil2 hins
  have k0 : 0 ≤ (ins.length : Int) := by omega
  have k2 : (ins.length : Int) ≤ 2 := by omega
  replace hins := Lib.hid hins
  have hst : MkP w (V4.setCell ⟨M, 4, none⟩ (.slice (some ⟨gi, 0, none⟩) ins.length 2)) R M d r3 (⟨(bl : Int), (wn : Int), ⟨some ⟨gi, 0, none⟩, 2⟩, ins, ⟨none, 0⟩, [], ⟨none, 0⟩, [], ⟨none, 0⟩, [], (Ex.mk ⟨0, 0, 0, 0, ⟨#[]⟩⟩ ⟨none, 0⟩ []), ⟨none, 0⟩, [], ⟨none, 0⟩, [], ⟨none, 0⟩, [], ⟨none, 0⟩, [], (Ex.mk ⟨0, 0, 0, 0, ⟨#[]⟩⟩ ⟨none, 0⟩ [])⟩ : Pg Loc) false := hP.b.put 4 (.slice (some ⟨gi, 0, none⟩) ins.length 2) (fun _ => rfl) ⟨hLi, hP.own.gh, hP.own.va, hP.own.ar, hP.own.req, hP.own.inits, hP.own.procs, hP.own.work, hP.own.recov, hP.own.inv⟩ (by show [gi].Nodup; simp)
  have cM := hP.b.cell (i := 4) (by omega) (v := .slice none 0 0) rfl
  have fM := hP.b.frozen 4
  have hMl := hP.lt_size
  replace hst := Lib.hid hst
  have hP' := Lib.hid hP
  clear hP
  go_upto_region 5 with (fail)
  clear cM fM hMl hP'
  have hP := hst.out
  clear hst
  generalize V4.setCell ⟨M, 4, none⟩ (.slice (some ⟨gi, 0, none⟩) ins.length 2) = V5 at *
  have hBx := (Below.refl _ V5).alloc (Nat.le_refl _) (.cells #[.string ⟨#[103]⟩, .int .i64 wn, .int .i64 0, .string ⟨#[104]⟩, .int .i64 1, .int .i64 0] 60)
  have hbg := Blk.new V5 60 #[.string ⟨#[103]⟩, .int .i64 wn, .int .i64 0, .string ⟨#[104]⟩, .int .i64 1, .int .i64 0]
  obtain ⟨gg, hgg⟩ : ∃ g, V5.heap.size = g := ⟨_, rfl⟩
  have hggM : M < gg := by have := hP.lt_size; omega
  have hlow := fun b hb => (hP.own.ge b hb).2
  have hP4 := hP.new hBx
  rw [hgg] at hbg
  have hLg := ldc_lit (base := M + 1) (l := [⟨sG, (wn : Int), 0⟩, ⟨sH, 1, 0⟩]) hbg rfl (by omega) (by simp)
  clear hP
  have hP := hP4
  clear hP4
  have hnd : (⟨(bl : Int), (wn : Int), ⟨some ⟨gi, 0, none⟩, 2⟩, ins, ⟨some ⟨gg, 0, none⟩, 2⟩, [⟨sG, (wn : Int), 0⟩, ⟨sH, 1, 0⟩], ⟨none, 0⟩, [], ⟨none, 0⟩, [], (Ex.mk ⟨0, 0, 0, 0, ⟨#[]⟩⟩ ⟨none, 0⟩ []), ⟨none, 0⟩, [], ⟨none, 0⟩, [], ⟨none, 0⟩, [], ⟨none, 0⟩, [], (Ex.mk ⟨0, 0, 0, 0, ⟨#[]⟩⟩ ⟨none, 0⟩ [])⟩ : Pg Loc).fp.Nodup := nodup_add hP.nd (x := [gg]) (by simp) (fun b hb hm => by rw [List.mem_singleton] at hm; have := hlow b hb; omega) (fun y => by simp only [Pg.fp, Loc.fp, Ex.fp, fps, Lin.fp, fpsI, Lpr.fp, fpsP, Pr.fp, Lst.fp, fpS, List.flatMap_nil, List.flatMap_cons, List.count_append, List.count_nil]; omega)
  replace hgg := Lib.hid hgg
  clear hlow hBx hbg
  have hst : MkP w ((V5.alloc (.cells #[.string ⟨#[103]⟩, .int .i64 wn, .int .i64 0, .string ⟨#[104]⟩, .int .i64 1, .int .i64 0] 60)).setCell ⟨M, 5, none⟩ (.slice (some ⟨gg, 0, none⟩) 2 2)) R M d r3 (⟨(bl : Int), (wn : Int), ⟨some ⟨gi, 0, none⟩, 2⟩, ins, ⟨some ⟨gg, 0, none⟩, 2⟩, [⟨sG, (wn : Int), 0⟩, ⟨sH, 1, 0⟩], ⟨none, 0⟩, [], ⟨none, 0⟩, [], (Ex.mk ⟨0, 0, 0, 0, ⟨#[]⟩⟩ ⟨none, 0⟩ []), ⟨none, 0⟩, [], ⟨none, 0⟩, [], ⟨none, 0⟩, [], ⟨none, 0⟩, [], (Ex.mk ⟨0, 0, 0, 0, ⟨#[]⟩⟩ ⟨none, 0⟩ [])⟩ : Pg Loc) false := hP.b.put 5 (.slice (some ⟨gg, 0, none⟩) 2 2) (fun _ => rfl) ⟨hP.own.ins, hLg, hP.own.va, hP.own.ar, hP.own.req, hP.own.inits, hP.own.procs, hP.own.work, hP.own.recov, hP.own.inv⟩ hnd
  have cM := hP.b.cell (i := 5) (by omega) (v := .slice none 0 0) rfl
  have fM := hP.b.frozen 5
  have hMl := hP.lt_size
  replace hst := Lib.hid hst
  have hP' := Lib.hid hP
  clear hP
  clear hLg hnd
  go_upto_region 6 with (fail)
  rw [hgg.out]
  clear cM fM hMl hP'
  have hP := hst.out
  clear hst
  generalize (V5.alloc (.cells #[.string ⟨#[103]⟩, .int .i64 wn, .int .i64 0, .string ⟨#[104]⟩, .int .i64 1, .int .i64 0] 60)).setCell ⟨M, 5, none⟩ (.slice (some ⟨gg, 0, none⟩) 2 2) = V6 at *
  have hBx := (Below.refl _ V6).alloc (Nat.le_refl _) (.cells #[.string ⟨#[118]⟩, .int .i64 wn, .int .i64 0, .string ⟨#[99]⟩, .int .i64 2, .int .i64 0] 60)
  have hbg := Blk.new V6 60 #[.string ⟨#[118]⟩, .int .i64 wn, .int .i64 0, .string ⟨#[99]⟩, .int .i64 2, .int .i64 0]
  obtain ⟨gv, hgv⟩ : ∃ g, V6.heap.size = g := ⟨_, rfl⟩
  have hgvM : M < gv := by have := hP.lt_size; omega
  have hlow := fun b hb => (hP.own.ge b hb).2
  have hP4 := hP.new hBx
  rw [hgv] at hbg
  have hLg := ldc_lit (base := M + 1) (l := [⟨sV, (wn : Int), 0⟩, ⟨sC, 2, 0⟩]) hbg rfl (by omega) (by simp)
  clear hP
  have hP := hP4
  clear hP4
  have hnd : (⟨(bl : Int), (wn : Int), ⟨some ⟨gi, 0, none⟩, 2⟩, ins, ⟨some ⟨gg, 0, none⟩, 2⟩, [⟨sG, (wn : Int), 0⟩, ⟨sH, 1, 0⟩], ⟨some ⟨gv, 0, none⟩, 2⟩, [⟨sV, (wn : Int), 0⟩, ⟨sC, 2, 0⟩], ⟨none, 0⟩, [], (Ex.mk ⟨0, 0, 0, 0, ⟨#[]⟩⟩ ⟨none, 0⟩ []), ⟨none, 0⟩, [], ⟨none, 0⟩, [], ⟨none, 0⟩, [], ⟨none, 0⟩, [], (Ex.mk ⟨0, 0, 0, 0, ⟨#[]⟩⟩ ⟨none, 0⟩ [])⟩ : Pg Loc).fp.Nodup := nodup_add hP.nd (x := [gv]) (by simp) (fun b hb hm => by rw [List.mem_singleton] at hm; have := hlow b hb; omega) (fun y => by simp only [Pg.fp, Loc.fp, Ex.fp, fps, Lin.fp, fpsI, Lpr.fp, fpsP, Pr.fp, Lst.fp, fpS, List.flatMap_nil, List.flatMap_cons, List.count_append, List.count_nil]; omega)
  replace hgv := Lib.hid hgv
  clear hlow hBx hbg
  have hst : MkP w ((V6.alloc (.cells #[.string ⟨#[118]⟩, .int .i64 wn, .int .i64 0, .string ⟨#[99]⟩, .int .i64 2, .int .i64 0] 60)).setCell ⟨M, 6, none⟩ (.slice (some ⟨gv, 0, none⟩) 2 2)) R M d r3 (⟨(bl : Int), (wn : Int), ⟨some ⟨gi, 0, none⟩, 2⟩, ins, ⟨some ⟨gg, 0, none⟩, 2⟩, [⟨sG, (wn : Int), 0⟩, ⟨sH, 1, 0⟩], ⟨some ⟨gv, 0, none⟩, 2⟩, [⟨sV, (wn : Int), 0⟩, ⟨sC, 2, 0⟩], ⟨none, 0⟩, [], (Ex.mk ⟨0, 0, 0, 0, ⟨#[]⟩⟩ ⟨none, 0⟩ []), ⟨none, 0⟩, [], ⟨none, 0⟩, [], ⟨none, 0⟩, [], ⟨none, 0⟩, [], (Ex.mk ⟨0, 0, 0, 0, ⟨#[]⟩⟩ ⟨none, 0⟩ [])⟩ : Pg Loc) false := hP.b.put 6 (.slice (some ⟨gv, 0, none⟩) 2 2) (fun _ => rfl) ⟨hP.own.ins, hP.own.gh, hLg, hP.own.ar, hP.own.req, hP.own.inits, hP.own.procs, hP.own.work, hP.own.recov, hP.own.inv⟩ hnd
  have cM := hP.b.cell (i := 6) (by omega) (v := .slice none 0 0) rfl
  have fM := hP.b.frozen 6
  have hMl := hP.lt_size
  replace hst := Lib.hid hst
  have hP' := Lib.hid hP
  clear hP
  clear hLg hnd
  go_upto_region 7 with (fail)
  rw [hgv.out]
  clear cM fM hMl hP'
  have hP := hst.out
  clear hst
  generalize (V6.alloc (.cells #[.string ⟨#[118]⟩, .int .i64 wn, .int .i64 0, .string ⟨#[99]⟩, .int .i64 2, .int .i64 0] 60)).setCell ⟨M, 6, none⟩ (.slice (some ⟨gv, 0, none⟩) 2 2) = V7 at *
  obtain ⟨⟨a4, r4⟩, hxa4⟩ : ∃ p, nx 2 r3 = p := ⟨_, rfl⟩
  have hlta4 := nx_lt (n := 2) (by omega) r3
  have hc := hP.next' 2 (by omega) (by omega)
  rw [hxa4] at hc hlta4
  dsimp only at hc hlta4
  replace hxa4 := Lib.hid hxa4
  replace hc := Lib.hid hc
  have hMl := hP.lt_size
  have hP' := Lib.hid hP
  clear hP
  go_wp2_with fail
  refine hc.out.mono ?_
  rintro xx V8 ⟨rfl, hP, hO⟩
  clear hc hP' hMl hO
  have a40 : 0 ≤ (a4 : Int) := by omega
  obtain ⟨an, han⟩ : ∃ an, an = 2 + a4 := ⟨_, rfl⟩
  have ea : 2 + (a4 : Int) = (an : Int) := by omega
  replace ea := Lib.hid ea
  replace han := Lib.hid han
  have hBx := (Below.refl _ V8).alloc (Nat.le_refl _) (.cells #[.string ⟨#[97]⟩, .int .i64 wn, .int .i64 an] 60)
  have hbg := Blk.new V8 60 #[.string ⟨#[97]⟩, .int .i64 wn, .int .i64 an]
  obtain ⟨ga, hga⟩ : ∃ g, V8.heap.size = g := ⟨_, rfl⟩
  have hgaM : M < ga := by have := hP.lt_size; omega
  have hlow := fun b hb => (hP.own.ge b hb).2
  have hP4 := hP.new hBx
  rw [hga] at hbg
  have hLg := ldc_lit (base := M + 1) (l := [⟨sA, (wn : Int), (an : Int)⟩]) hbg rfl (by omega) (by simp)
  clear hP
  have hP := hP4
  clear hP4
  have hnd : (⟨(bl : Int), (wn : Int), ⟨some ⟨gi, 0, none⟩, 2⟩, ins, ⟨some ⟨gg, 0, none⟩, 2⟩, [⟨sG, (wn : Int), 0⟩, ⟨sH, 1, 0⟩], ⟨some ⟨gv, 0, none⟩, 2⟩, [⟨sV, (wn : Int), 0⟩, ⟨sC, 2, 0⟩], ⟨some ⟨ga, 0, none⟩, 1⟩, [⟨sA, (wn : Int), (an : Int)⟩], (Ex.mk ⟨0, 0, 0, 0, ⟨#[]⟩⟩ ⟨none, 0⟩ []), ⟨none, 0⟩, [], ⟨none, 0⟩, [], ⟨none, 0⟩, [], ⟨none, 0⟩, [], (Ex.mk ⟨0, 0, 0, 0, ⟨#[]⟩⟩ ⟨none, 0⟩ [])⟩ : Pg Loc).fp.Nodup := nodup_add hP.nd (x := [ga]) (by simp) (fun b hb hm => by rw [List.mem_singleton] at hm; have := hlow b hb; omega) (fun y => by simp only [Pg.fp, Loc.fp, Ex.fp, fps, Lin.fp, fpsI, Lpr.fp, fpsP, Pr.fp, Lst.fp, fpS, List.flatMap_nil, List.flatMap_cons, List.count_append, List.count_nil]; omega)
  replace hga := Lib.hid hga
  clear hlow hBx hbg
  have hst : MkP w ((V8.alloc (.cells #[.string ⟨#[97]⟩, .int .i64 wn, .int .i64 an] 60)).setCell ⟨M, 7, none⟩ (.slice (some ⟨ga, 0, none⟩) 1 1)) R M d r4 (⟨(bl : Int), (wn : Int), ⟨some ⟨gi, 0, none⟩, 2⟩, ins, ⟨some ⟨gg, 0, none⟩, 2⟩, [⟨sG, (wn : Int), 0⟩, ⟨sH, 1, 0⟩], ⟨some ⟨gv, 0, none⟩, 2⟩, [⟨sV, (wn : Int), 0⟩, ⟨sC, 2, 0⟩], ⟨some ⟨ga, 0, none⟩, 1⟩, [⟨sA, (wn : Int), (an : Int)⟩], (Ex.mk ⟨0, 0, 0, 0, ⟨#[]⟩⟩ ⟨none, 0⟩ []), ⟨none, 0⟩, [], ⟨none, 0⟩, [], ⟨none, 0⟩, [], ⟨none, 0⟩, [], (Ex.mk ⟨0, 0, 0, 0, ⟨#[]⟩⟩ ⟨none, 0⟩ [])⟩ : Pg Loc) false := hP.b.put 7 (.slice (some ⟨ga, 0, none⟩) 1 1) (fun _ => rfl) ⟨hP.own.ins, hP.own.gh, hP.own.va, hLg, hP.own.req, hP.own.inits, hP.own.procs, hP.own.work, hP.own.recov, hP.own.inv⟩ hnd
  have cM := hP.b.cell (i := 7) (by omega) (v := .slice none 0 0) rfl
  have fM := hP.b.frozen 7
  have hMl := hP.lt_size
  replace hst := Lib.hid hst
  have hP' := Lib.hid hP
  clear hP
  clear hLg hnd
  rw [← ea.out] at cM fM hMl
  go_upto_region 8 with (fail)
  rw [hga.out, ea.out]
  clear cM fM hMl hP'
  have hP := hst.out
  clear hst
  generalize (V8.alloc (.cells #[.string ⟨#[97]⟩, .int .i64 wn, .int .i64 an] 60)).setCell ⟨M, 7, none⟩ (.slice (some ⟨ga, 0, none⟩) 1 1) = V9 at *
  have hMl := hP.lt_size
  have hP' := Lib.hid hP
  clear hP
  go_wp2_with fail
  refine (num_ok _ _ _).mono ?_
  rintro xx V10 ⟨rfl, hB⟩
  have hP := hP'.out.new hB
  clear hP' hB hMl
  have hst : MkP w (V10.setCells M 8 [.int .u8 1, .int .u8 0, .int .u32 1, .int .i64 1, .string ⟨#[]⟩, .slice none 0 0]) R M d r4 (⟨(bl : Int), (wn : Int), ⟨some ⟨gi, 0, none⟩, 2⟩, ins, ⟨some ⟨gg, 0, none⟩, 2⟩, [⟨sG, (wn : Int), 0⟩, ⟨sH, 1, 0⟩], ⟨some ⟨gv, 0, none⟩, 2⟩, [⟨sV, (wn : Int), 0⟩, ⟨sC, 2, 0⟩], ⟨some ⟨ga, 0, none⟩, 1⟩, [⟨sA, (wn : Int), (an : Int)⟩], (Ex.mk ⟨1, 0, 1, 1, ⟨#[]⟩⟩ ⟨none, 0⟩ []), ⟨none, 0⟩, [], ⟨none, 0⟩, [], ⟨none, 0⟩, [], ⟨none, 0⟩, [], (Ex.mk ⟨0, 0, 0, 0, ⟨#[]⟩⟩ ⟨none, 0⟩ [])⟩ : Pg Loc) false := hP.b.puts 6 [.int .u8 1, .int .u8 0, .int .u32 1, .int .i64 1, .string ⟨#[]⟩, .slice none 0 0] [.int .u8 0, .int .u8 0, .int .u32 0, .int .i64 0, .string ⟨#[]⟩, .slice none 0 0] [.int .i64 bl, .int .i64 wn, .slice (some ⟨gi, 0, none⟩) ins.length 2, .slice (some ⟨gg, 0, none⟩) 2 2, .slice (some ⟨gv, 0, none⟩) 2 2, .slice (some ⟨ga, 0, none⟩) 1 1] [.slice none 0 0, .slice none 0 0, .slice none 0 0, .slice none 0 0, .int .u8 0, .int .u8 0, .int .u32 0, .int .i64 0, .string ⟨#[]⟩, .slice none 0 0, .bool false] rfl rfl (fun _ => rfl) (fun _ => rfl) ⟨hP.own.ins, hP.own.gh, hP.own.va, hP.own.ar, ⟨World.ownsRow_nil _ _ _ _, trivial⟩, hP.own.inits, hP.own.procs, hP.own.work, hP.own.recov, hP.own.inv⟩ hP.nd
  have hth := hP.b.there (i := 8) (n := 6) (by omega)
  replace hst := Lib.hid hst
  have hMl := hP.lt_size
  have hP' := Lib.hid hP
  clear hP
  go_wp2_with (refine wpList_store_at 30 (.tmp 73) (.tmp 70) M 8 #[.int .u8 1, .int .u8 0, .int .u32 1, .int .i64 1, .string ⟨#[]⟩, .slice none 0 0] rfl rfl hth (by kernel_rfl) (by simp [Value.oneCell']) ?_; refine Shut.out ?_)
  refine shut_mk ?_
  have hP := hst.out
  clear hst hth hP' hMl
  generalize V10.setCells M 8 _ = V11 at *
  obtain ⟨⟨a5, r5⟩, hxa5⟩ : ∃ p, nx 3 r4 = p := ⟨_, rfl⟩
  have hlta5 := nx_lt (n := 3) (by omega) r4
  have hc := hP.next' 3 (by omega) (by omega)
  rw [hxa5] at hc hlta5
  dsimp only at hc hlta5
  replace hxa5 := Lib.hid hxa5
  replace hc := Lib.hid hc
  have hMl := hP.lt_size
  have hP' := Lib.hid hP
  clear hP
  go_wp2_with fail
  refine hc.out.mono ?_
  rintro xx V12 ⟨rfl, hP, hO⟩
  clear hc hP' hMl hO
  obtain ⟨e0, he0⟩ : ∃ e0 : EvP, e0 = ⟨wn, ins, [⟨sG, (wn : Int), 0⟩, ⟨sH, 1, 0⟩], [⟨sV, (wn : Int), 0⟩, ⟨sC, 2, 0⟩], false, false⟩ := ⟨_, rfl⟩
  obtain ⟨⟨q, r6⟩, hxq⟩ : ∃ p, (if a5 = 0 then exprM e0 2 1 1 r5 else (numE 1 1, r5)) = p := ⟨_, rfl⟩
  have hsm : Sm (⟨(bl : Int), (wn : Int), ⟨some ⟨gi, 0, none⟩, 2⟩, ins, ⟨some ⟨gg, 0, none⟩, 2⟩, [⟨sG, (wn : Int), 0⟩, ⟨sH, 1, 0⟩], ⟨some ⟨gv, 0, none⟩, 2⟩, [⟨sV, (wn : Int), 0⟩, ⟨sC, 2, 0⟩], ⟨some ⟨ga, 0, none⟩, 1⟩, [⟨sA, (wn : Int), (an : Int)⟩], (Ex.mk ⟨1, 0, 1, 1, ⟨#[]⟩⟩ ⟨none, 0⟩ []), ⟨none, 0⟩, [], ⟨none, 0⟩, [], ⟨none, 0⟩, [], ⟨none, 0⟩, [], (Ex.mk ⟨0, 0, 0, 0, ⟨#[]⟩⟩ ⟨none, 0⟩ [])⟩ : Pg Loc) wn := ⟨rfl, w1, w3, hil2, by simp, by simp, by simp⟩
  have hev : (evOf (⟨(bl : Int), (wn : Int), ⟨some ⟨gi, 0, none⟩, 2⟩, ins, ⟨some ⟨gg, 0, none⟩, 2⟩, [⟨sG, (wn : Int), 0⟩, ⟨sH, 1, 0⟩], ⟨some ⟨gv, 0, none⟩, 2⟩, [⟨sV, (wn : Int), 0⟩, ⟨sC, 2, 0⟩], ⟨some ⟨ga, 0, none⟩, 1⟩, [⟨sA, (wn : Int), (an : Int)⟩], (Ex.mk ⟨1, 0, 1, 1, ⟨#[]⟩⟩ ⟨none, 0⟩ []), ⟨none, 0⟩, [], ⟨none, 0⟩, [], ⟨none, 0⟩, [], ⟨none, 0⟩, [], (Ex.mk ⟨0, 0, 0, 0, ⟨#[]⟩⟩ ⟨none, 0⟩ [])⟩ : Pg Loc) false wn).p = e0 := by rw [he0]; rfl
  replace hev := Lib.hid hev
  replace hxq := Lib.hid hxq
  replace he0 := Lib.hid he0
  have hMl := hP.lt_size
  have hP' := Lib.hid hP
  clear hP
  go_upto_if 76 with (fail)
  have hP := hP'.out
  clear hP' hMl
  try dsimp only
  go_cut [] from 74 to 82 (fun wx => ∃ Eq : Ex Loc, Eq.plain = q ∧ MkP w wx R M d r6 (⟨(bl : Int), (wn : Int), ⟨some ⟨gi, 0, none⟩, 2⟩, ins, ⟨some ⟨gg, 0, none⟩, 2⟩, [⟨sG, (wn : Int), 0⟩, ⟨sH, 1, 0⟩], ⟨some ⟨gv, 0, none⟩, 2⟩, [⟨sV, (wn : Int), 0⟩, ⟨sC, 2, 0⟩], ⟨some ⟨ga, 0, none⟩, 1⟩, [⟨sA, (wn : Int), (an : Int)⟩], Eq, ⟨none, 0⟩, [], ⟨none, 0⟩, [], ⟨none, 0⟩, [], ⟨none, 0⟩, [], (Ex.mk ⟨0, 0, 0, 0, ⟨#[]⟩⟩ ⟨none, 0⟩ [])⟩ : Pg Loc) false)
  case first =>
    by_cases h0 : a5 = 0
    · have h0b : ((a5 : Int) == 0) = true := by simp; omega
      have hc := hP.expr hsm 2 1 1 (by omega) (by omega) (by omega) (by omega)
      rw [hev.out] at hc
      have hx0 : exprM e0 2 1 1 r5 = (q, r6) := by have := hxq.out; rw [if_pos h0] at this; exact this
      rw [hx0] at hc
      have hlow := fun b hb => (hP.own.ge b hb).2
      have hlw : M + 1 ≤ V12.heap.size := hP.lt_size
      have hnd0 := hP.nd
      replace hc := Lib.hid hc
      replace hlow := Lib.hid hlow
      replace hnd0 := Lib.hid hnd0
      have hMl := hP.lt_size
      have hP' := Lib.hid hP
      clear hP
      go_wp2_with fail
      refine hc.out.mono ?_
      rintro xx V13 ⟨qk, qo, qv, qw, qn, qA, qc, qs, rfl, hEp, hEo, hEn, hP, hO⟩
      have hEg := hEo.ge
      have hst : MkP w (V13.setCells M 8 [.int .u8 qk, .int .u8 qo, .int .u32 qv, .int .i64 qw, .string qn, .slice qA qs.length qc]) R M d r6 (⟨(bl : Int), (wn : Int), ⟨some ⟨gi, 0, none⟩, 2⟩, ins, ⟨some ⟨gg, 0, none⟩, 2⟩, [⟨sG, (wn : Int), 0⟩, ⟨sH, 1, 0⟩], ⟨some ⟨gv, 0, none⟩, 2⟩, [⟨sV, (wn : Int), 0⟩, ⟨sC, 2, 0⟩], ⟨some ⟨ga, 0, none⟩, 1⟩, [⟨sA, (wn : Int), (an : Int)⟩], (Ex.mk ⟨qk, qo, qv, qw, qn⟩ ⟨qA, qc⟩ qs), ⟨none, 0⟩, [], ⟨none, 0⟩, [], ⟨none, 0⟩, [], ⟨none, 0⟩, [], (Ex.mk ⟨0, 0, 0, 0, ⟨#[]⟩⟩ ⟨none, 0⟩ [])⟩ : Pg Loc) false := hP.b.puts 6 [.int .u8 qk, .int .u8 qo, .int .u32 qv, .int .i64 qw, .string qn, .slice qA qs.length qc] [.int .u8 1, .int .u8 0, .int .u32 1, .int .i64 1, .string ⟨#[]⟩, .slice none 0 0] [.int .i64 bl, .int .i64 wn, .slice (some ⟨gi, 0, none⟩) ins.length 2, .slice (some ⟨gg, 0, none⟩) 2 2, .slice (some ⟨gv, 0, none⟩) 2 2, .slice (some ⟨ga, 0, none⟩) 1 1] [.slice none 0 0, .slice none 0 0, .slice none 0 0, .slice none 0 0, .int .u8 0, .int .u8 0, .int .u32 0, .int .i64 0, .string ⟨#[]⟩, .slice none 0 0, .bool false] rfl rfl (fun _ => rfl) (fun _ => rfl) ⟨hP.own.ins, hP.own.gh, hP.own.va, hP.own.ar, hEo.base_le hlw, hP.own.inits, hP.own.procs, hP.own.work, hP.own.recov, hP.own.inv⟩ (nodup_add hnd0.out hEn (fun b hb hm => by have := hlow.out b hb; have := (hEg b hm).1; omega) (fun y => by simp only [Pg.fp, Loc.fp, Ex.fp, fps, Lin.fp, fpsI, Lpr.fp, fpsP, Pr.fp, Lst.fp, fpS, List.flatMap_nil, List.flatMap_cons, List.count_append, List.count_nil]; omega))
      have hth := hP.b.there (i := 8) (n := 6) (by omega)
      replace hst := Lib.hid hst
      have hMl := hP.lt_size
      have hP' := Lib.hid hP
      replace hEo := Lib.hid hEo
      replace hEn := Lib.hid hEn
      replace hEp := Lib.hid hEp
      replace hEg := Lib.hid hEg
      clear hP
      go_wp2_with (refine wpList_store_at 30 (.tmp 82) (.tmp 79) M 8 #[.int .u8 qk, .int .u8 qo, .int .u32 qv, .int .i64 qw, .string qn, .slice qA qs.length qc] rfl rfl hth (by kernel_rfl) (by simp [Value.oneCell']) ?_; refine Shut.out ?_)
      refine shut_mk ?_
      have hP := hst.out
      clear hst hth hP' hMl
      generalize V13.setCells M 8 _ = V14 at *
      replace hP := Lib.hid hP
      go_wp2_with fail
      go_meet
      exact ⟨_, hEp.out, hP.out⟩
    · have h0b : ((a5 : Int) == 0) = false := by simp; omega
      replace hP := Lib.hid hP
      have hx0 : (numE 1 1, r5) = (q, r6) := by have := hxq.out; rw [if_neg h0] at this; exact this
      injection hx0 with hx1 hx2
      subst hx2
      replace hx1 := Lib.hid hx1
      go_wp2_with fail
      go_meet
      exact ⟨_, by rw [← hx1.out]; rfl, hP.out⟩
  case rest =>
  clear hP
  obtain ⟨⟨⟨qk, qo, qv, qw, qn⟩, ⟨qA, qc⟩, qs⟩, hEq, hP⟩ := hcut
  replace hEq := Lib.hid hEq
  obtain ⟨V15, hV15⟩ : ∃ W, W = wc := ⟨_, rfl⟩
  rw [← hV15] at hP ⊢
  clear hV15 hsm hev
  have cM := hP.b.cell (i := 2) (by omega) (v := .int .i64 bl) rfl
  have hMl := hP.lt_size
  have hP' := Lib.hid hP
  clear hP
  have bl0 : 0 ≤ (bl : Int) := by omega
  go_wp2_with fail
  have hP := hP'.out
  clear hP' hMl cM
  go_loopw [88] (fun v88 wr => ∃ (k : Nat) (rk : List Nat) (lA : Option Addr) (lc : Nat) (is : List (In Loc)), v88 = .int .i64 k ∧ k ≤ bl ∧ is.length ≤ k ∧ initsM e0 k r6 = (is.map In.plain, rk) ∧ MkP w wr R M d rk (⟨(bl : Int), (wn : Int), ⟨some ⟨gi, 0, none⟩, 2⟩, ins, ⟨some ⟨gg, 0, none⟩, 2⟩, [⟨sG, (wn : Int), 0⟩, ⟨sH, 1, 0⟩], ⟨some ⟨gv, 0, none⟩, 2⟩, [⟨sV, (wn : Int), 0⟩, ⟨sC, 2, 0⟩], ⟨some ⟨ga, 0, none⟩, 1⟩, [⟨sA, (wn : Int), (an : Int)⟩], (Ex.mk ⟨qk, qo, qv, qw, qn⟩ ⟨qA, qc⟩ qs), ⟨lA, lc⟩, is, ⟨none, 0⟩, [], ⟨none, 0⟩, [], ⟨none, 0⟩, [], (Ex.mk ⟨0, 0, 0, 0, ⟨#[]⟩⟩ ⟨none, 0⟩ [])⟩ : Pg Loc) false) (fun v88 _ => bl - (intOf v88).toNat)
  case atStart => exact ⟨0, r6, none, 0, [], rfl, Nat.zero_le _, Nat.le_refl _, rfl, hP⟩
  case round =>
    clear hP
    obtain ⟨k, rk, lA, lc, is, rfl, hkb, hik, hin, hP⟩ := hrel
    have k0 : 0 ≤ (k : Int) := by omega
    by_cases hlt : k < bl
    · have k1 : (k : Int) < (bl : Int) := by omega
      replace hin := Lib.hid hin
      obtain ⟨⟨z, rz⟩, hxz⟩ : ∃ p, nx 3 rk = p := ⟨_, rfl⟩
      have hltz := nx_lt (n := 3) (by omega) rk
      have hc := hP.next' 3 (by omega) (by omega)
      rw [hxz] at hc hltz
      dsimp only at hc hltz
      replace hxz := Lib.hid hxz
      replace hc := Lib.hid hc
      have hMl := hP.lt_size
      have hP' := Lib.hid hP
      clear hP
      go_wp2_with fail
      refine hc.out.mono ?_
      rintro xx V21 ⟨rfl, hP, hO⟩
      clear hc hP' hMl hO
      by_cases hz0 : z = 0
      · obtain rfl : z = 0 := hz0
        have hsm : Sm (⟨(bl : Int), (wn : Int), ⟨some ⟨gi, 0, none⟩, 2⟩, ins, ⟨some ⟨gg, 0, none⟩, 2⟩, [⟨sG, (wn : Int), 0⟩, ⟨sH, 1, 0⟩], ⟨some ⟨gv, 0, none⟩, 2⟩, [⟨sV, (wn : Int), 0⟩, ⟨sC, 2, 0⟩], ⟨some ⟨ga, 0, none⟩, 1⟩, [⟨sA, (wn : Int), (an : Int)⟩], (Ex.mk ⟨qk, qo, qv, qw, qn⟩ ⟨qA, qc⟩ qs), ⟨lA, lc⟩, is, ⟨none, 0⟩, [], ⟨none, 0⟩, [], ⟨none, 0⟩, [], (Ex.mk ⟨0, 0, 0, 0, ⟨#[]⟩⟩ ⟨none, 0⟩ [])⟩ : Pg Loc) wn := ⟨rfl, w1, w3, hil2, by simp, by simp, by simp⟩
        have hev : (evOf (⟨(bl : Int), (wn : Int), ⟨some ⟨gi, 0, none⟩, 2⟩, ins, ⟨some ⟨gg, 0, none⟩, 2⟩, [⟨sG, (wn : Int), 0⟩, ⟨sH, 1, 0⟩], ⟨some ⟨gv, 0, none⟩, 2⟩, [⟨sV, (wn : Int), 0⟩, ⟨sC, 2, 0⟩], ⟨some ⟨ga, 0, none⟩, 1⟩, [⟨sA, (wn : Int), (an : Int)⟩], (Ex.mk ⟨qk, qo, qv, qw, qn⟩ ⟨qA, qc⟩ qs), ⟨lA, lc⟩, is, ⟨none, 0⟩, [], ⟨none, 0⟩, [], ⟨none, 0⟩, [], (Ex.mk ⟨0, 0, 0, 0, ⟨#[]⟩⟩ ⟨none, 0⟩ [])⟩ : Pg Loc) false wn).p = e0 := by rw [he0.out]; rfl
        have hew : e0.w = wn := by rw [he0.out]
        replace hP := hP.new ((Below.refl _ V21).drew)
        have hc := hP.expr hsm 1 wn 1 (by omega) w1 w3 (by omega)
        rw [hev] at hc
        obtain ⟨⟨xx0, rx⟩, hxx⟩ : ∃ p, exprM e0 1 wn 1 rz = p := ⟨_, rfl⟩
        rw [hxx] at hc
        have hxx' : exprM e0 1 e0.w 1 rz = (xx0, rx) := by rw [hew]; exact hxx
        have hin2 := initsM_yes hin.out hxz.out hxx'
        obtain ⟨i0, hi, hz0, hz1, hz2⟩ := info_parts info_init
        replace hi := Lib.hid hi
        replace hz0 := Lib.hid hz0
        replace hz1 := Lib.hid hz1
        replace hz2 := Lib.hid hz2
        have hlow := fun b hb => (hP.own.ge b hb).2
        have hlw : M + 1 ≤ V21.drew.heap.size := hP.lt_size
        have hd0 : (⟨(bl : Int), (wn : Int), ⟨some ⟨gi, 0, none⟩, 2⟩, ins, ⟨some ⟨gg, 0, none⟩, 2⟩, [⟨sG, (wn : Int), 0⟩, ⟨sH, 1, 0⟩], ⟨some ⟨gv, 0, none⟩, 2⟩, [⟨sV, (wn : Int), 0⟩, ⟨sC, 2, 0⟩], ⟨some ⟨ga, 0, none⟩, 1⟩, [⟨sA, (wn : Int), (an : Int)⟩], (Ex.mk ⟨qk, qo, qv, qw, qn⟩ ⟨qA, qc⟩ qs), ⟨lA, lc⟩, is, ⟨none, 0⟩, [], ⟨none, 0⟩, [], ⟨none, 0⟩, [], (Ex.mk ⟨0, 0, 0, 0, ⟨#[]⟩⟩ ⟨none, 0⟩ [])⟩ : Pg Loc).fp.Nodup := hP.nd
        replace hxx := Lib.hid hxx
        replace hxx' := Lib.hid hxx'
        replace hin2 := Lib.hid hin2
        replace hev := Lib.hid hev
        replace hc := Lib.hid hc
        replace hlow := Lib.hid hlow
        replace hd0 := Lib.hid hd0
        have hMl := hP.lt_size
        go_upto_region 15 with (fail)
        obtain ⟨S, hSi, hSe⟩ : ∃ S : World → Prop, (∀ W, (W.cell? ⟨M, 14, none⟩ = some (.slice lA is.length lc)) → S W) ∧ (∀ W, S W → (W.cell? ⟨M, 14, none⟩ = some (.slice lA is.length lc))) := ⟨fun W => W.cell? ⟨M, 14, none⟩ = some (.slice lA is.length lc), fun _ h => h, fun _ h => h⟩
        have hS : S V21.drew := hSi _ (hP.b.cell (by omega) rfl)
        replace hSi := Lib.hid hSi
        replace hSe := Lib.hid hSe
        refine wp_region_T (S := S) (St := [16]) (by kernel_rfl) ?_
        change wpAnyT _ _ _ _ _ _ _ _ _ (World.drew _)
        refine pureT 0 (v := ?_) rfl (by kernel_rfl) (by kernel_rfl) (by kernel_rfl) (by kernel_rfl) (fun _ _ _ h => h) (by rfl) (fun _ => hS) ?_ ?_
        rotate_left
        · (intro wz; go_simp; try with_reducible rfl)
        try simp only [Act.put, List.setIfInBounds_toArray, List.set_cons_zero, List.set_cons_succ]
        refine pureT 1 (v := ?_) rfl (by kernel_rfl) (by kernel_rfl) (by kernel_rfl) (by kernel_rfl) (fun _ _ _ h => h) (by rfl) (fun _ => hS) ?_ ?_
        rotate_left
        · (intro wz; go_simp; try with_reducible rfl)
        try simp only [Act.put, List.setIfInBounds_toArray, List.set_cons_zero, List.set_cons_succ]
        refine pureT 2 (v := ?_) rfl (by kernel_rfl) (by kernel_rfl) (by kernel_rfl) (by kernel_rfl) (fun _ _ _ h => h) (by rfl) (fun _ => hS) ?_ ?_
        rotate_left
        · (intro wz; go_simp; try with_reducible rfl)
        try simp only [Act.put, List.setIfInBounds_toArray, List.set_cons_zero, List.set_cons_succ]
        refine pureT 3 (v := ?_) rfl (by kernel_rfl) (by kernel_rfl) (by kernel_rfl) (by kernel_rfl) (fun _ _ _ h => h) (by rfl) (fun _ => hS) ?_ ?_
        rotate_left
        · (intro wz; go_simp; try with_reducible rfl)
        try simp only [Act.put, List.setIfInBounds_toArray, List.set_cons_zero, List.set_cons_succ]
        refine pureT 4 (v := ?_) rfl (by kernel_rfl) (by kernel_rfl) (by kernel_rfl) (by kernel_rfl) (fun _ _ _ h => h) (by rfl) (fun _ => hS) ?_ ?_
        rotate_left
        · (intro wz; go_simp; try with_reducible rfl)
        try simp only [Act.put, List.setIfInBounds_toArray, List.set_cons_zero, List.set_cons_succ]
        refine pureT 6 (v := ?_) rfl (by kernel_rfl) (by kernel_rfl) (by kernel_rfl) (by kernel_rfl) (fun _ _ _ h => h) (by rfl) (fun _ => hS) ?_ ?_
        rotate_left
        · (intro wz; go_simp; try with_reducible rfl)
        try simp only [Act.put, List.setIfInBounds_toArray, List.set_cons_zero, List.set_cons_succ]
        refine pureT 7 (v := ?_) rfl (by kernel_rfl) (by kernel_rfl) (by kernel_rfl) (by kernel_rfl) (fun _ _ _ h => h) (by rfl) (fun _ => hS) ?_ ?_
        rotate_left
        · (intro wz; go_simp; try with_reducible rfl)
        try simp only [Act.put, List.setIfInBounds_toArray, List.set_cons_zero, List.set_cons_succ]
        refine pureT 8 (v := ?_) rfl (by kernel_rfl) (by kernel_rfl) (by kernel_rfl) (by kernel_rfl) (fun _ _ _ h => h) (by rfl) (fun _ => hS) ?_ ?_
        rotate_left
        · (intro wz; go_simp; try with_reducible rfl)
        try simp only [Act.put, List.setIfInBounds_toArray, List.set_cons_zero, List.set_cons_succ]
        refine takeT 5 (v := .slice lA is.length lc) rfl (by kernel_rfl) (by kernel_rfl) (by kernel_rfl) (by kernel_rfl) (fun _ _ _ h => h) (by rfl) hS ?_ ?_
        · (intro wz hSw; obtain z0 := hSe.out _ hSw; go_simp)
        try simp only [Act.put, List.setIfInBounds_toArray, List.set_cons_zero, List.set_cons_succ]
        refine callT 9 rfl (by kernel_rfl) (fun K hK => ?_)
        go_simp
        go_wp2_with (go_at_call 33; refine hc.out.mono ?_; rintro xx V22 ⟨yk, yo, yv, yw, yn, yA, yc, ys, rfl, hEp, hEo, hEn, hP6, hO⟩)
        refine hK.out _ _ (hSi.out _ (hP6.b.cell (by omega) rfl)) (fun hSn => ?_)
        clear hK K hS
        have hS := hSn
        clear hSn
        refine pureT 10 (v := ?_) rfl (by kernel_rfl) (by kernel_rfl) (by kernel_rfl) (by kernel_rfl) (fun _ _ _ h => h) (by rfl) (fun _ => hS) ?_ ?_
        rotate_left
        · (intro wz; go_simp; try with_reducible rfl)
        try simp only [Act.put, List.setIfInBounds_toArray, List.set_cons_zero, List.set_cons_succ]
        refine callT 11 rfl (by kernel_rfl) (fun K hK => ?_)
        go_simp
        have hBz := (Below.refl _ V22).alloc (Nat.le_refl _) (.cells #[.int .i64 k, .int .u8 yk, .int .u8 yo, .int .u32 yv, .int .i64 yw, .string yn, .slice yA ys.length yc] 44)
        have hP7 := hP6.new hBz
        have hrd := Reads.of_own (World.ownsRow_lit (base := V22.heap.size) (e := 44) (size := 7) V22 #[.int .i64 k, .int .u8 yk, .int .u8 yo, .int .u32 yv, .int .i64 yw, .string yn, .slice yA ys.length yc] 1 (Nat.le_refl _) (by simp [maxLen]) rfl)
        have hEo7 := hEo.keep (only_of_below [] hBz) (by simp)
        have hrow := hP7.own.inits.1
        have hlow7 := hP7.own.ge
        have hE7 := hEo7.ge
        have hV22 : V21.drew.heap.size ≤ V22.heap.size := hO.size
        refine hK.out _ _ (hSi.out _ (hP7.b.cell (by omega) rfl)) (fun hSn => ?_)
        clear hK K hS
        have hS := hSn
        clear hSn
        refine callT 12 rfl (by kernel_rfl) (fun K hK => ?_)
        generalize (V22.alloc (.cells #[.int .i64 k, .int .u8 yk, .int .u8 yo, .int .u32 yv, .int .i64 yw, .string yn, .slice yA ys.length yc] 44)) = V7 at *
        refine step_append_any (w := V7) (by rfl) (.tmp 99) (.tmp 105) 31 (by rfl) (M + 1) 44 i0 _ 7 64 Try.underlying31 hi.out hz0.out hz1.out hz2.out rfl (by omega) (.slice lA is.length lc) is.length (cellsI eT is) (by rfl) hrow _ (some ⟨V22.heap.size, 0, none⟩) 1 1 (cellsI eT [(⟨k, (Ex.mk ⟨yk, yo, yv, yw, yn⟩ ⟨yA, yc⟩ ys)⟩ : In Loc)]) (by rfl) hrd (cellsI_one1 _ _) (by simp only [maxLen]; omega) (by omega) hP7.lt_size ?_
        intro v8 V8 hown8 hg8 hb8
        obtain ⟨A', c', hv8, hLin, hLnd, hLsub⟩ := append_in (x := (⟨k, (Ex.mk ⟨yk, yo, yv, yw, yn⟩ ⟨yA, yc⟩ ys)⟩ : In Loc)) hP7.own.inits (nodup_disj hP7.nd (x := Lin.fp ⟨lA, lc⟩ is) (a := (⟨(bl : Int), (wn : Int), ⟨some ⟨gi, 0, none⟩, 2⟩, ins, ⟨some ⟨gg, 0, none⟩, 2⟩, [⟨sG, (wn : Int), 0⟩, ⟨sH, 1, 0⟩], ⟨some ⟨gv, 0, none⟩, 2⟩, [⟨sV, (wn : Int), 0⟩, ⟨sC, 2, 0⟩], ⟨some ⟨ga, 0, none⟩, 1⟩, [⟨sA, (wn : Int), (an : Int)⟩], (Ex.mk ⟨qk, qo, qv, qw, qn⟩ ⟨qA, qc⟩ qs), ⟨none, 0⟩, [], ⟨none, 0⟩, [], ⟨none, 0⟩, [], ⟨none, 0⟩, [], (Ex.mk ⟨0, 0, 0, 0, ⟨#[]⟩⟩ ⟨none, 0⟩ [])⟩ : Pg Loc).fp) (fun y => by simp only [Pg.fp, Loc.fp, Ex.fp, fps, Lin.fp, fpsI, Lpr.fp, fpsP, Pr.fp, Lst.fp, fpS, List.flatMap_nil, List.flatMap_cons, List.count_append, List.count_nil]; omega)).2.1 (hEo7.base_le hlw) hEn (fun b hb hm => by have h1 := (hE7 b hm).1; have h2 := hlow.out b (by simp only [Pg.fp, List.mem_append]; exact .inr (.inr (.inr (.inr (.inr (.inl hb)))))); omega) (by have := hown8; exact this) hg8 hb8
        obtain ⟨is2, his2⟩ : ∃ l, l = is ++ [(⟨k, (Ex.mk ⟨yk, yo, yv, yw, yn⟩ ⟨yA, yc⟩ ys)⟩ : In Loc)] := ⟨_, rfl⟩
        rw [← his2] at hLin hLnd hLsub
        have hl2 : is.length + 1 = is2.length := by rw [his2, List.length_append]; rfl
        rw [hl2] at hv8
        subst hv8
        have hrb : ∀ b, (Value.slice lA is.length lc).ownBlock = some b → b ∈ (Loc.mk lA lc).fp := fun b hb => (own_fp ⟨lA, lc⟩ is.length b).2 hb
        have hB8 := hP7.b.grown hg8 (fun b hb => (hP7.own.inits.ge b (List.mem_append_left _ (hrb b hb))).1)
        obtain ⟨hn1, hn2, hn3⟩ := nodup_disj hP7.nd (x := Lin.fp ⟨lA, lc⟩ is) (a := (⟨(bl : Int), (wn : Int), ⟨some ⟨gi, 0, none⟩, 2⟩, ins, ⟨some ⟨gg, 0, none⟩, 2⟩, [⟨sG, (wn : Int), 0⟩, ⟨sH, 1, 0⟩], ⟨some ⟨gv, 0, none⟩, 2⟩, [⟨sV, (wn : Int), 0⟩, ⟨sC, 2, 0⟩], ⟨some ⟨ga, 0, none⟩, 1⟩, [⟨sA, (wn : Int), (an : Int)⟩], (Ex.mk ⟨qk, qo, qv, qw, qn⟩ ⟨qA, qc⟩ qs), ⟨none, 0⟩, [], ⟨none, 0⟩, [], ⟨none, 0⟩, [], ⟨none, 0⟩, [], (Ex.mk ⟨0, 0, 0, 0, ⟨#[]⟩⟩ ⟨none, 0⟩ [])⟩ : Pg Loc).fp) (fun y => by simp only [Pg.fp, Loc.fp, Ex.fp, fps, Lin.fp, fpsI, Lpr.fp, fpsP, Pr.fp, Lst.fp, fpS, List.flatMap_nil, List.flatMap_cons, List.count_append, List.count_nil]; omega)
        have hpz7 : (⟨(bl : Int), (wn : Int), ⟨some ⟨gi, 0, none⟩, 2⟩, ins, ⟨some ⟨gg, 0, none⟩, 2⟩, [⟨sG, (wn : Int), 0⟩, ⟨sH, 1, 0⟩], ⟨some ⟨gv, 0, none⟩, 2⟩, [⟨sV, (wn : Int), 0⟩, ⟨sC, 2, 0⟩], ⟨some ⟨ga, 0, none⟩, 1⟩, [⟨sA, (wn : Int), (an : Int)⟩], (Ex.mk ⟨qk, qo, qv, qw, qn⟩ ⟨qA, qc⟩ qs), ⟨none, 0⟩, [], ⟨none, 0⟩, [], ⟨none, 0⟩, [], ⟨none, 0⟩, [], (Ex.mk ⟨0, 0, 0, 0, ⟨#[]⟩⟩ ⟨none, 0⟩ [])⟩ : Pg Loc).own V7 (M + 1) := ⟨hP7.own.ins, hP7.own.gh, hP7.own.va, hP7.own.ar, hP7.own.req, ⟨World.ownsRow_nil _ _ _ _, fun x hx => by cases hx⟩, hP7.own.procs, hP7.own.work, hP7.own.recov, hP7.own.inv⟩
        have hpz8 : (⟨(bl : Int), (wn : Int), ⟨some ⟨gi, 0, none⟩, 2⟩, ins, ⟨some ⟨gg, 0, none⟩, 2⟩, [⟨sG, (wn : Int), 0⟩, ⟨sH, 1, 0⟩], ⟨some ⟨gv, 0, none⟩, 2⟩, [⟨sV, (wn : Int), 0⟩, ⟨sC, 2, 0⟩], ⟨some ⟨ga, 0, none⟩, 1⟩, [⟨sA, (wn : Int), (an : Int)⟩], (Ex.mk ⟨qk, qo, qv, qw, qn⟩ ⟨qA, qc⟩ qs), ⟨none, 0⟩, [], ⟨none, 0⟩, [], ⟨none, 0⟩, [], ⟨none, 0⟩, [], (Ex.mk ⟨0, 0, 0, 0, ⟨#[]⟩⟩ ⟨none, 0⟩ [])⟩ : Pg Loc).own V8 (M + 1) := (keep_pg (M + 1) (⟨(bl : Int), (wn : Int), ⟨some ⟨gi, 0, none⟩, 2⟩, ins, ⟨some ⟨gg, 0, none⟩, 2⟩, [⟨sG, (wn : Int), 0⟩, ⟨sH, 1, 0⟩], ⟨some ⟨gv, 0, none⟩, 2⟩, [⟨sV, (wn : Int), 0⟩, ⟨sC, 2, 0⟩], ⟨some ⟨ga, 0, none⟩, 1⟩, [⟨sA, (wn : Int), (an : Int)⟩], (Ex.mk ⟨qk, qo, qv, qw, qn⟩ ⟨qA, qc⟩ qs), ⟨none, 0⟩, [], ⟨none, 0⟩, [], ⟨none, 0⟩, [], ⟨none, 0⟩, [], (Ex.mk ⟨0, 0, 0, 0, ⟨#[]⟩⟩ ⟨none, 0⟩ [])⟩ : Pg Loc)).same hpz7 (fun b hb => hg8.block b (hpz7.ge b hb).2 (fun e => hn3 b hb (List.mem_append_left _ (hrb b e.symm))))
        have hst : MkP w (V8.setCell ⟨M, 14, none⟩ (.slice A' is2.length c')) R M d rx (⟨(bl : Int), (wn : Int), ⟨some ⟨gi, 0, none⟩, 2⟩, ins, ⟨some ⟨gg, 0, none⟩, 2⟩, [⟨sG, (wn : Int), 0⟩, ⟨sH, 1, 0⟩], ⟨some ⟨gv, 0, none⟩, 2⟩, [⟨sV, (wn : Int), 0⟩, ⟨sC, 2, 0⟩], ⟨some ⟨ga, 0, none⟩, 1⟩, [⟨sA, (wn : Int), (an : Int)⟩], (Ex.mk ⟨qk, qo, qv, qw, qn⟩ ⟨qA, qc⟩ qs), ⟨A', c'⟩, is2, ⟨none, 0⟩, [], ⟨none, 0⟩, [], ⟨none, 0⟩, [], (Ex.mk ⟨0, 0, 0, 0, ⟨#[]⟩⟩ ⟨none, 0⟩ [])⟩ : Pg Loc) false := hB8.put 14 (.slice A' is2.length c') (fun _ => rfl) ⟨hpz8.ins, hpz8.gh, hpz8.va, hpz8.ar, hpz8.req, hLin, hpz8.procs, hpz8.work, hpz8.recov, hpz8.inv⟩ (nodup_add hn1 hLnd (fun b hb hm => by
          have h1 := (hpz7.ge b hb).2
          have h2 : b < V21.drew.heap.size := hlow.out b (by
            have h3 := List.count_pos_iff.2 hb
            refine List.count_pos_iff.1 ?_
            have h4 : (⟨(bl : Int), (wn : Int), ⟨some ⟨gi, 0, none⟩, 2⟩, ins, ⟨some ⟨gg, 0, none⟩, 2⟩, [⟨sG, (wn : Int), 0⟩, ⟨sH, 1, 0⟩], ⟨some ⟨gv, 0, none⟩, 2⟩, [⟨sV, (wn : Int), 0⟩, ⟨sC, 2, 0⟩], ⟨some ⟨ga, 0, none⟩, 1⟩, [⟨sA, (wn : Int), (an : Int)⟩], (Ex.mk ⟨qk, qo, qv, qw, qn⟩ ⟨qA, qc⟩ qs), ⟨lA, lc⟩, is, ⟨none, 0⟩, [], ⟨none, 0⟩, [], ⟨none, 0⟩, [], (Ex.mk ⟨0, 0, 0, 0, ⟨#[]⟩⟩ ⟨none, 0⟩ [])⟩ : Pg Loc).fp.count b = (⟨(bl : Int), (wn : Int), ⟨some ⟨gi, 0, none⟩, 2⟩, ins, ⟨some ⟨gg, 0, none⟩, 2⟩, [⟨sG, (wn : Int), 0⟩, ⟨sH, 1, 0⟩], ⟨some ⟨gv, 0, none⟩, 2⟩, [⟨sV, (wn : Int), 0⟩, ⟨sC, 2, 0⟩], ⟨some ⟨ga, 0, none⟩, 1⟩, [⟨sA, (wn : Int), (an : Int)⟩], (Ex.mk ⟨qk, qo, qv, qw, qn⟩ ⟨qA, qc⟩ qs), ⟨none, 0⟩, [], ⟨none, 0⟩, [], ⟨none, 0⟩, [], ⟨none, 0⟩, [], (Ex.mk ⟨0, 0, 0, 0, ⟨#[]⟩⟩ ⟨none, 0⟩ [])⟩ : Pg Loc).fp.count b + (Lin.fp ⟨lA, lc⟩ is).count b := by simp only [Pg.fp, Loc.fp, Ex.fp, fps, Lin.fp, fpsI, Lpr.fp, fpsP, Pr.fp, Lst.fp, fpS, List.flatMap_nil, List.flatMap_cons, List.count_append, List.count_nil]; omega
            omega)
          rcases hLsub b hm with hm | hm | hm
          · exact hn3 b hb hm
          · have := (hE7 b hm).1; omega
          · omega) (fun y => by simp only [Pg.fp, Loc.fp, Ex.fp, fps, Lin.fp, fpsI, Lpr.fp, fpsP, Pr.fp, Lst.fp, fpS, List.flatMap_nil, List.flatMap_cons, List.count_append, List.count_nil]; omega))
        have g14 := hB8.cell (i := 14) (by omega) (v := .slice lA is.length lc) rfl
        have f14 := hB8.frozen 14
        have l14 := hB8.lt_size
        replace hst := Lib.hid hst
        replace his2 := Lib.hid his2
        replace hl2 := Lib.hid hl2
        replace hEp := Lib.hid hEp
        clear hown8 hg8 hb8 hLin hLnd hLsub hrb hn1 hn2 hn3 hpz7 hpz8 hB8 hP7 hP6 hrd hrow hlow7 hE7 hEo7 hEo hEn hBz hV22 hP
        refine hK.out _ _ (hSi.out _ g14) (fun hSn => ?_)
        clear hK K hS
        have hS := hSn
        clear hSn
        refine pureT 13 (v := ?_) rfl (by kernel_rfl) (by kernel_rfl) (by kernel_rfl) (by kernel_rfl) (fun _ _ _ h => h) (by rfl) (fun _ => hS) ?_ ?_
        rotate_left
        · (intro wz; go_simp; try with_reducible rfl)
        try simp only [Act.put, List.setIfInBounds_toArray, List.set_cons_zero, List.set_cons_succ]
        refine pureT 14 (v := ?_) rfl (by kernel_rfl) (by kernel_rfl) (by kernel_rfl) (by kernel_rfl) (fun _ _ _ h => h) (by rfl) (fun _ => hS) ?_ ?_
        rotate_left
        · (intro wz; go_simp; try with_reducible rfl)
        try simp only [Act.put, List.setIfInBounds_toArray, List.set_cons_zero, List.set_cons_succ]
        refine pureT 15 (v := ?_) rfl (by kernel_rfl) (by kernel_rfl) (by kernel_rfl) (by kernel_rfl) (fun _ _ _ h => h) (by rfl) (fun _ => hS) ?_ ?_
        rotate_left
        · (intro wz; go_simp; try with_reducible rfl)
        try simp only [Act.put, List.setIfInBounds_toArray, List.set_cons_zero, List.set_cons_succ]
        refine storeT 16 rfl (by kernel_rfl) (by kernel_rfl) (fun K hK => ?_)
        go_simp
        go_wp2_with fail
        refine hK.out _ _ ?_
        clear hK K
        refine wpAnyT_done (by kernel_rfl) ?_ _
        have hP9 := hst.out
        clear hst hS hSi hSe g14 f14 l14
        clear S
        generalize V8.setCell ⟨M, 14, none⟩ _ = V9' at *
        have hin3 : initsM e0 (k + 1) r6 = (is2.map In.plain, rx) := by
          rw [hin2.out, his2.out, List.map_append, List.map_cons, List.map_nil]
          have : In.plain (⟨k, (Ex.mk ⟨yk, yo, yv, yw, yn⟩ ⟨yA, yc⟩ ys)⟩ : In Loc) = ⟨k, xx0⟩ := by
            have h1 := hEp.out
            try dsimp only at h1
            show (⟨k, (Ex.mk ⟨yk, yo, yv, yw, yn⟩ ⟨yA, yc⟩ ys).plain⟩ : In Unit) = _
            rw [h1]
          rw [this]
        have hl3 : is2.length ≤ k + 1 := by have := hl2.out; omega
        replace hP9 := Lib.hid hP9
        replace hin3 := Lib.hid hin3
        go_wp2_with fail
        go_roundw
        case rel => exact ⟨k + 1, rx, A', c', is2, by go_num, by omega, hl3, hin3.out, hP9.out⟩
        case measure => simp [intOf]; omega
      · have hzb : ((z : Int) == 0) = false := by simp; omega
        have hin2 := initsM_no hin.out hxz.out hz0
        replace hP := Lib.hid hP
        replace hin2 := Lib.hid hin2
        go_wp2_with fail
        go_roundw
        case rel => exact ⟨k + 1, rz, lA, lc, is, by go_num, by omega, by omega, hin2.out, hP.out⟩
        case measure => simp [intOf]; omega
    · obtain rfl : bl = k := by omega
      replace hin := Lib.hid hin
      clear hlt hkb
      obtain ⟨⟨f, r8⟩, hxf⟩ : ∃ p, nx 2 rk = p := ⟨_, rfl⟩
      have hltf := nx_lt (n := 2) (by omega) rk
      have hc := hP.next' 2 (by omega) (by omega)
      rw [hxf] at hc hltf
      dsimp only at hc hltf
      replace hxf := Lib.hid hxf
      replace hc := Lib.hid hc
      have hMl := hP.lt_size
      have hP' := Lib.hid hP
      clear hP
      go_wp2_with fail
      refine hc.out.mono ?_
      rintro xx V31 ⟨rfl, hP, hO⟩
      clear hc hP' hMl hO
      obtain ⟨procsU, hpu⟩ : ∃ p : List (Pr Unit), p = if f = 1 then [⟨sP, (), [⟨sX, (wn : Int), 0⟩], (), (stmtsM { e0 with param := true } 3 1 r8).1⟩] else [] := ⟨_, rfl⟩
      obtain ⟨r9, hr9⟩ : ∃ r, r = if f = 1 then (stmtsM { e0 with param := true } 3 1 r8).2 else r8 := ⟨_, rfl⟩
      replace hpu := Lib.hid hpu
      replace hr9 := Lib.hid hr9
      have hMl := hP.lt_size
      have hP' := Lib.hid hP
      clear hP
      go_upto_if 113 with (fail)
      have hP := hP'.out
      clear hP' hMl
      try dsimp only
      go_cut [] from 111 to 130 (fun wx => ∃ (lq : Loc) (procs : List (Pr Loc)), procs.map Pr.plain = procsU ∧ procs.length ≤ 1 ∧ decide (0 < procs.length) = decide (f = 1) ∧ MkP w wx R M d r9 (⟨(bl : Int), (wn : Int), ⟨some ⟨gi, 0, none⟩, 2⟩, ins, ⟨some ⟨gg, 0, none⟩, 2⟩, [⟨sG, (wn : Int), 0⟩, ⟨sH, 1, 0⟩], ⟨some ⟨gv, 0, none⟩, 2⟩, [⟨sV, (wn : Int), 0⟩, ⟨sC, 2, 0⟩], ⟨some ⟨ga, 0, none⟩, 1⟩, [⟨sA, (wn : Int), (an : Int)⟩], (Ex.mk ⟨qk, qo, qv, qw, qn⟩ ⟨qA, qc⟩ qs), ⟨lA, lc⟩, is, lq, procs, ⟨none, 0⟩, [], ⟨none, 0⟩, [], (Ex.mk ⟨0, 0, 0, 0, ⟨#[]⟩⟩ ⟨none, 0⟩ [])⟩ : Pg Loc) false)
      case first =>
        by_cases hf : f = 1
        · have hfb : ((f : Int) == 1) = true := by simp; omega
          have hst : MkP w (V31.setCell ⟨M, 24, none⟩ (.bool true)) R M d r8 (⟨(bl : Int), (wn : Int), ⟨some ⟨gi, 0, none⟩, 2⟩, ins, ⟨some ⟨gg, 0, none⟩, 2⟩, [⟨sG, (wn : Int), 0⟩, ⟨sH, 1, 0⟩], ⟨some ⟨gv, 0, none⟩, 2⟩, [⟨sV, (wn : Int), 0⟩, ⟨sC, 2, 0⟩], ⟨some ⟨ga, 0, none⟩, 1⟩, [⟨sA, (wn : Int), (an : Int)⟩], (Ex.mk ⟨qk, qo, qv, qw, qn⟩ ⟨qA, qc⟩ qs), ⟨lA, lc⟩, is, ⟨none, 0⟩, [], ⟨none, 0⟩, [], ⟨none, 0⟩, [], (Ex.mk ⟨0, 0, 0, 0, ⟨#[]⟩⟩ ⟨none, 0⟩ [])⟩ : Pg Loc) true := hP.b.put 24 (.bool true) (fun _ => rfl) hP.own hP.nd
          have cM := hP.b.cell (i := 24) (by omega) (v := .bool false) rfl
          have fM := hP.b.frozen 24
          replace hst := Lib.hid hst
          have hMl := hP.lt_size
          have hP' := Lib.hid hP
          clear hP
          go_upto_region 19 with (fail)
          clear cM fM hMl hP'
          have hP := hst.out
          clear hst
          generalize V31.setCell ⟨M, 24, none⟩ (.bool true) = V32 at *
          have hsm : Sm (⟨(bl : Int), (wn : Int), ⟨some ⟨gi, 0, none⟩, 2⟩, ins, ⟨some ⟨gg, 0, none⟩, 2⟩, [⟨sG, (wn : Int), 0⟩, ⟨sH, 1, 0⟩], ⟨some ⟨gv, 0, none⟩, 2⟩, [⟨sV, (wn : Int), 0⟩, ⟨sC, 2, 0⟩], ⟨some ⟨ga, 0, none⟩, 1⟩, [⟨sA, (wn : Int), (an : Int)⟩], (Ex.mk ⟨qk, qo, qv, qw, qn⟩ ⟨qA, qc⟩ qs), ⟨lA, lc⟩, is, ⟨none, 0⟩, [], ⟨none, 0⟩, [], ⟨none, 0⟩, [], (Ex.mk ⟨0, 0, 0, 0, ⟨#[]⟩⟩ ⟨none, 0⟩ [])⟩ : Pg Loc) wn := ⟨rfl, w1, w3, hil2, by simp, by simp, by simp⟩
          have hev : (evOf (⟨(bl : Int), (wn : Int), ⟨some ⟨gi, 0, none⟩, 2⟩, ins, ⟨some ⟨gg, 0, none⟩, 2⟩, [⟨sG, (wn : Int), 0⟩, ⟨sH, 1, 0⟩], ⟨some ⟨gv, 0, none⟩, 2⟩, [⟨sV, (wn : Int), 0⟩, ⟨sC, 2, 0⟩], ⟨some ⟨ga, 0, none⟩, 1⟩, [⟨sA, (wn : Int), (an : Int)⟩], (Ex.mk ⟨qk, qo, qv, qw, qn⟩ ⟨qA, qc⟩ qs), ⟨lA, lc⟩, is, ⟨none, 0⟩, [], ⟨none, 0⟩, [], ⟨none, 0⟩, [], (Ex.mk ⟨0, 0, 0, 0, ⟨#[]⟩⟩ ⟨none, 0⟩ [])⟩ : Pg Loc) true wn).p = { e0 with param := true } := by rw [he0.out]; rfl
          have hBx := (Below.refl _ V32).alloc (Nat.le_refl _) (.cells #[.string ⟨#[120]⟩, .int .i64 wn, .int .i64 0] 60)
          have hbg := Blk.new V32 60 #[.string ⟨#[120]⟩, .int .i64 wn, .int .i64 0]
          obtain ⟨gx, hgx⟩ : ∃ g, V32.heap.size = g := ⟨_, rfl⟩
          have hgxM : M < gx := by have := hP.lt_size; omega
          have hlow := fun b hb => (hP.own.ge b hb).2
          have hlw : M + 1 ≤ V32.heap.size := hP.lt_size
          have hd0 := hP.nd
          have hP4 := hP.new hBx
          rw [hgx] at hbg
          have hLx := ldc_lit (base := M + 1) (l := [⟨sX, (wn : Int), 0⟩]) hbg rfl (by omega) (by simp)
          have hgxl := hbg.lt
          have hc := hP4.stmts hsm 3 1 (by omega) (by omega)
          rw [hev] at hc
          obtain ⟨⟨tb, rb⟩, hxb⟩ : ∃ p, stmtsM { e0 with param := true } 3 1 r8 = p := ⟨_, rfl⟩
          rw [hxb] at hc
          have hpu' := hpu.out
          have hr9' := hr9.out
          rw [if_pos hf, hxb] at hpu' hr9'
          dsimp only at hpu' hr9'
          replace hpu' := Lib.hid hpu'
          replace hr9' := Lib.hid hr9'
          replace hc := Lib.hid hc
          replace hxb := Lib.hid hxb
          replace hlow := Lib.hid hlow
          replace hd0 := Lib.hid hd0
          have hMl := hP4.lt_size
          have hsz4 : V32.heap.size + 1 = (V32.alloc (.cells #[.string ⟨#[120]⟩, .int .i64 wn, .int .i64 0] 60)).heap.size := by simp
          replace hgx := Lib.hid hgx
          replace hsz4 := Lib.hid hsz4
          replace hLx := Lib.hid hLx
          clear hP hP4 hBx hbg hev hsm
          go_wp2_with fail
          refine hc.out.mono ?_
          rintro xx V33 ⟨tA, tc, ts, rfl, hTp, hTo, hTn, hP, hO⟩
          try dsimp only at hTp hP
          have hTg := hTo.ge
          have hgx' := hgx.out
          have hsz4' := hsz4.out
          have hL1 := (keep_ldc (M + 1) _ _).only hLx.out hO (fun b hb hm => by simp [Loc.fp] at hb; rw [List.mem_singleton] at hm; omega)
          have hBp := (Below.refl _ V33).alloc (Nat.le_refl _) (.cells #[.string ⟨#[112]⟩, .slice (some ⟨gx, 0, none⟩) 1 1, .slice tA ts.length tc] 46)
          have hbp := Blk.new V33 46 #[.string ⟨#[112]⟩, .slice (some ⟨gx, 0, none⟩) 1 1, .slice tA ts.length tc]
          obtain ⟨gp, hgp⟩ : ∃ g, V33.heap.size = g := ⟨_, rfl⟩
          have hgpM : M < gp := by have := hP.lt_size; omega
          have hOs := hO.size
          have hP5 := hP.new hBp
          rw [hgp] at hbp
          have hLp : Lpr.own (V33.alloc (.cells #[.string ⟨#[112]⟩, .slice (some ⟨gx, 0, none⟩) 1 1, .slice tA ts.length tc] 46)) (M + 1) ⟨some ⟨gp, 0, none⟩, 1⟩ [(⟨⟨#[112]⟩, ⟨some ⟨gx, 0, none⟩, 1⟩, [⟨sX, (wn : Int), 0⟩], ⟨tA, tc⟩, ts⟩ : Pr Loc)] := lpr_lit (l := [(⟨⟨#[112]⟩, ⟨some ⟨gx, 0, none⟩, 1⟩, [⟨sX, (wn : Int), 0⟩], ⟨tA, tc⟩, ts⟩ : Pr Loc)]) hbp rfl (by omega) (by simp) (fun y hy => by
            rw [List.mem_singleton] at hy
            subst hy
            exact ⟨(keep_ldc (M + 1) _ _).new hL1 hBp, (hTo.base_le (by omega)).keep (only_of_below [] hBp) (by simp)⟩)
          have hLn : (Lpr.fp ⟨some ⟨gp, 0, none⟩, 1⟩ [(⟨⟨#[112]⟩, ⟨some ⟨gx, 0, none⟩, 1⟩, [⟨sX, (wn : Int), 0⟩], ⟨tA, tc⟩, ts⟩ : Pr Loc)]).Nodup := by
            show (gp :: (gx :: Lst.fp ⟨tA, tc⟩ ts ++ [])).Nodup
            rw [List.append_nil]
            refine List.nodup_cons.2 ⟨fun hm => ?_, List.nodup_cons.2 ⟨fun hm => ?_, hTn⟩⟩
            · rcases List.mem_cons.1 hm with e | hm
              · omega
              · have := (hTg gp hm).2; omega
            · have := (hTg gx hm).1; omega
          have hnd : (⟨(bl : Int), (wn : Int), ⟨some ⟨gi, 0, none⟩, 2⟩, ins, ⟨some ⟨gg, 0, none⟩, 2⟩, [⟨sG, (wn : Int), 0⟩, ⟨sH, 1, 0⟩], ⟨some ⟨gv, 0, none⟩, 2⟩, [⟨sV, (wn : Int), 0⟩, ⟨sC, 2, 0⟩], ⟨some ⟨ga, 0, none⟩, 1⟩, [⟨sA, (wn : Int), (an : Int)⟩], (Ex.mk ⟨qk, qo, qv, qw, qn⟩ ⟨qA, qc⟩ qs), ⟨lA, lc⟩, is, ⟨some ⟨gp, 0, none⟩, 1⟩, [(⟨⟨#[112]⟩, ⟨some ⟨gx, 0, none⟩, 1⟩, [⟨sX, (wn : Int), 0⟩], ⟨tA, tc⟩, ts⟩ : Pr Loc)], ⟨none, 0⟩, [], ⟨none, 0⟩, [], (Ex.mk ⟨0, 0, 0, 0, ⟨#[]⟩⟩ ⟨none, 0⟩ [])⟩ : Pg Loc).fp.Nodup := nodup_add hd0.out hLn (fun b hb hm => by
            have h1 := hlow.out b hb
            have h2 : b ∈ gp :: (gx :: Lst.fp ⟨tA, tc⟩ ts ++ []) := hm
            rw [List.append_nil] at h2
            rcases List.mem_cons.1 h2 with e | h2
            · omega
            · rcases List.mem_cons.1 h2 with e | h2
              · omega
              · have := (hTg b h2).1; omega) (fun y => by simp only [Pg.fp, Loc.fp, Ex.fp, fps, Lin.fp, fpsI, Lpr.fp, fpsP, Pr.fp, Lst.fp, fpS, List.flatMap_nil, List.flatMap_cons, List.count_append, List.count_nil]; omega)
          have hst : MkP w ((V33.alloc (.cells #[.string ⟨#[112]⟩, .slice (some ⟨gx, 0, none⟩) 1 1, .slice tA ts.length tc] 46)).setCell ⟨M, 15, none⟩ (.slice (some ⟨gp, 0, none⟩) 1 1)) R M d rb (⟨(bl : Int), (wn : Int), ⟨some ⟨gi, 0, none⟩, 2⟩, ins, ⟨some ⟨gg, 0, none⟩, 2⟩, [⟨sG, (wn : Int), 0⟩, ⟨sH, 1, 0⟩], ⟨some ⟨gv, 0, none⟩, 2⟩, [⟨sV, (wn : Int), 0⟩, ⟨sC, 2, 0⟩], ⟨some ⟨ga, 0, none⟩, 1⟩, [⟨sA, (wn : Int), (an : Int)⟩], (Ex.mk ⟨qk, qo, qv, qw, qn⟩ ⟨qA, qc⟩ qs), ⟨lA, lc⟩, is, ⟨some ⟨gp, 0, none⟩, 1⟩, [(⟨⟨#[112]⟩, ⟨some ⟨gx, 0, none⟩, 1⟩, [⟨sX, (wn : Int), 0⟩], ⟨tA, tc⟩, ts⟩ : Pr Loc)], ⟨none, 0⟩, [], ⟨none, 0⟩, [], (Ex.mk ⟨0, 0, 0, 0, ⟨#[]⟩⟩ ⟨none, 0⟩ [])⟩ : Pg Loc) true := hP5.b.put 15 (.slice (some ⟨gp, 0, none⟩) 1 1) (fun _ => rfl) ⟨hP5.own.ins, hP5.own.gh, hP5.own.va, hP5.own.ar, hP5.own.req, hP5.own.inits, hLp, hP5.own.work, hP5.own.recov, hP5.own.inv⟩ hnd
          have cM := hP5.b.cell (i := 15) (by omega) (v := .slice none 0 0) rfl
          have fM := hP5.b.frozen 15
          have hMl := hP5.lt_size
          replace hst := Lib.hid hst
          replace hgp := Lib.hid hgp
          replace hTp := Lib.hid hTp
          clear hnd hLn hLp hP5 hP hbp hBp hL1 hTg hTo hTn hO hOs hgx' hsz4'
          rw [hgx.out]
          go_upto_region 20 with (fail)
          rw [hgp.out]
          clear cM fM hMl
          have hP := hst.out
          clear hst
          generalize (V33.alloc (.cells #[.string ⟨#[112]⟩, .slice (some ⟨gx, 0, none⟩) 1 1, .slice tA ts.length tc] 46)).setCell ⟨M, 15, none⟩ (.slice (some ⟨gp, 0, none⟩) 1 1) = V34 at *
          have hst : MkP w (V34.setCell ⟨M, 24, none⟩ (.bool false)) R M d rb (⟨(bl : Int), (wn : Int), ⟨some ⟨gi, 0, none⟩, 2⟩, ins, ⟨some ⟨gg, 0, none⟩, 2⟩, [⟨sG, (wn : Int), 0⟩, ⟨sH, 1, 0⟩], ⟨some ⟨gv, 0, none⟩, 2⟩, [⟨sV, (wn : Int), 0⟩, ⟨sC, 2, 0⟩], ⟨some ⟨ga, 0, none⟩, 1⟩, [⟨sA, (wn : Int), (an : Int)⟩], (Ex.mk ⟨qk, qo, qv, qw, qn⟩ ⟨qA, qc⟩ qs), ⟨lA, lc⟩, is, ⟨some ⟨gp, 0, none⟩, 1⟩, [(⟨⟨#[112]⟩, ⟨some ⟨gx, 0, none⟩, 1⟩, [⟨sX, (wn : Int), 0⟩], ⟨tA, tc⟩, ts⟩ : Pr Loc)], ⟨none, 0⟩, [], ⟨none, 0⟩, [], (Ex.mk ⟨0, 0, 0, 0, ⟨#[]⟩⟩ ⟨none, 0⟩ [])⟩ : Pg Loc) false := hP.b.put 24 (.bool false) (fun _ => rfl) hP.own hP.nd
          have cM := hP.b.cell (i := 24) (by omega) (v := .bool true) rfl
          have fM := hP.b.frozen 24
          replace hst := Lib.hid hst
          have hMl := hP.lt_size
          have hP' := Lib.hid hP
          clear hP
          go_wp2_with fail
          go_meet
          refine ⟨⟨some ⟨gp, 0, none⟩, 1⟩, [(⟨⟨#[112]⟩, ⟨some ⟨gx, 0, none⟩, 1⟩, [⟨sX, (wn : Int), 0⟩], ⟨tA, tc⟩, ts⟩ : Pr Loc)], ?_, by simp, by rw [hf]; rfl, by rw [hr9'.out]; exact hst.out⟩
          rw [hpu'.out, ← hTp.out]
          rfl
        · have hfb : ((f : Int) == 1) = false := by simp; omega
          replace hP := Lib.hid hP
          go_wp2_with fail
          go_meet
          exact ⟨⟨none, 0⟩, [], by rw [hpu.out, if_neg hf]; rfl, by simp, by simp [hf], by rw [hr9.out, if_neg hf]; exact hP.out⟩
      case rest =>
      clear hP
      obtain ⟨lq, procs, hpp, hpl1, hpd, hP⟩ := hcut
      replace hpp := Lib.hid hpp
      replace hpd := Lib.hid hpd
      obtain ⟨V40, hV40⟩ : ∃ W, W = wc := ⟨_, rfl⟩
      rw [← hV40] at hP ⊢
      clear hV40
      have hsm : Sm (⟨(bl : Int), (wn : Int), ⟨some ⟨gi, 0, none⟩, 2⟩, ins, ⟨some ⟨gg, 0, none⟩, 2⟩, [⟨sG, (wn : Int), 0⟩, ⟨sH, 1, 0⟩], ⟨some ⟨gv, 0, none⟩, 2⟩, [⟨sV, (wn : Int), 0⟩, ⟨sC, 2, 0⟩], ⟨some ⟨ga, 0, none⟩, 1⟩, [⟨sA, (wn : Int), (an : Int)⟩], (Ex.mk ⟨qk, qo, qv, qw, qn⟩ ⟨qA, qc⟩ qs), ⟨lA, lc⟩, is, lq, procs, ⟨none, 0⟩, [], ⟨none, 0⟩, [], (Ex.mk ⟨0, 0, 0, 0, ⟨#[]⟩⟩ ⟨none, 0⟩ [])⟩ : Pg Loc) wn := ⟨rfl, w1, w3, hil2, by simp, by simp, hpl1⟩
      have hev : (evOf (⟨(bl : Int), (wn : Int), ⟨some ⟨gi, 0, none⟩, 2⟩, ins, ⟨some ⟨gg, 0, none⟩, 2⟩, [⟨sG, (wn : Int), 0⟩, ⟨sH, 1, 0⟩], ⟨some ⟨gv, 0, none⟩, 2⟩, [⟨sV, (wn : Int), 0⟩, ⟨sC, 2, 0⟩], ⟨some ⟨ga, 0, none⟩, 1⟩, [⟨sA, (wn : Int), (an : Int)⟩], (Ex.mk ⟨qk, qo, qv, qw, qn⟩ ⟨qA, qc⟩ qs), ⟨lA, lc⟩, is, lq, procs, ⟨none, 0⟩, [], ⟨none, 0⟩, [], (Ex.mk ⟨0, 0, 0, 0, ⟨#[]⟩⟩ ⟨none, 0⟩ [])⟩ : Pg Loc) false wn).p = { e0 with hasP := decide (f = 1) } := by rw [← hpd.out, he0.out]; rfl
      have hlow := fun b hb => (hP.own.ge b hb).2
      have hlw : M + 1 ≤ V40.heap.size := hP.lt_size
      have hd0 := hP.nd
      have hc := hP.stmts hsm 5 2 (by omega) (by omega)
      rw [hev] at hc
      obtain ⟨⟨tu, r10⟩, hxu⟩ : ∃ p, stmtsM { e0 with hasP := decide (f = 1) } 5 2 r9 = p := ⟨_, rfl⟩
      rw [hxu] at hc
      replace hc := Lib.hid hc
      replace hxu := Lib.hid hxu
      replace hlow := Lib.hid hlow
      replace hd0 := Lib.hid hd0
      have hMl := hP.lt_size
      have hP' := Lib.hid hP
      clear hP
      clear hev hsm
      go_wp2_with fail
      refine hc.out.mono ?_
      rintro xx V40a ⟨uA, uc, us, rfl, hup, hTo, hTn, hP, hO⟩
      try dsimp only at hup hP
      have hTg := hTo.ge
      have hst : MkP w (V40a.setCell ⟨M, 16, none⟩ (.slice uA us.length uc)) R M d r10 (⟨(bl : Int), (wn : Int), ⟨some ⟨gi, 0, none⟩, 2⟩, ins, ⟨some ⟨gg, 0, none⟩, 2⟩, [⟨sG, (wn : Int), 0⟩, ⟨sH, 1, 0⟩], ⟨some ⟨gv, 0, none⟩, 2⟩, [⟨sV, (wn : Int), 0⟩, ⟨sC, 2, 0⟩], ⟨some ⟨ga, 0, none⟩, 1⟩, [⟨sA, (wn : Int), (an : Int)⟩], (Ex.mk ⟨qk, qo, qv, qw, qn⟩ ⟨qA, qc⟩ qs), ⟨lA, lc⟩, is, lq, procs, ⟨uA, uc⟩, us, ⟨none, 0⟩, [], (Ex.mk ⟨0, 0, 0, 0, ⟨#[]⟩⟩ ⟨none, 0⟩ [])⟩ : Pg Loc) false := hP.b.put 16 (.slice uA us.length uc) (fun _ => rfl) ⟨hP.own.ins, hP.own.gh, hP.own.va, hP.own.ar, hP.own.req, hP.own.inits, hP.own.procs, hTo.base_le hlw, hP.own.recov, hP.own.inv⟩ (nodup_add hd0.out hTn (fun b hb hm => by have := hlow.out b hb; have := (hTg b hm).1; omega) (fun y => by simp only [Pg.fp, Loc.fp, Ex.fp, fps, Lin.fp, fpsI, Lpr.fp, fpsP, Pr.fp, Lst.fp, fpS, List.flatMap_nil, List.flatMap_cons, List.count_append, List.count_nil]; omega))
      have cM := hP.b.cell (i := 16) (by omega) (v := .slice none 0 0) rfl
      have fM := hP.b.frozen 16
      replace hst := Lib.hid hst
      replace hup := Lib.hid hup
      clear hTo hTn hTg hP' hc hd0 hlow hMl
      have hMl := hP.lt_size
      have hP' := Lib.hid hP
      clear hP
      go_upto_region 22 with (fail)
      clear cM fM hMl hP' hO
      have hP := hst.out
      clear hst
      generalize V40a.setCell ⟨M, 16, none⟩ _ = V41 at *
      have hsm : Sm (⟨(bl : Int), (wn : Int), ⟨some ⟨gi, 0, none⟩, 2⟩, ins, ⟨some ⟨gg, 0, none⟩, 2⟩, [⟨sG, (wn : Int), 0⟩, ⟨sH, 1, 0⟩], ⟨some ⟨gv, 0, none⟩, 2⟩, [⟨sV, (wn : Int), 0⟩, ⟨sC, 2, 0⟩], ⟨some ⟨ga, 0, none⟩, 1⟩, [⟨sA, (wn : Int), (an : Int)⟩], (Ex.mk ⟨qk, qo, qv, qw, qn⟩ ⟨qA, qc⟩ qs), ⟨lA, lc⟩, is, lq, procs, ⟨uA, uc⟩, us, ⟨none, 0⟩, [], (Ex.mk ⟨0, 0, 0, 0, ⟨#[]⟩⟩ ⟨none, 0⟩ [])⟩ : Pg Loc) wn := ⟨rfl, w1, w3, hil2, by simp, by simp, hpl1⟩
      have hev : (evOf (⟨(bl : Int), (wn : Int), ⟨some ⟨gi, 0, none⟩, 2⟩, ins, ⟨some ⟨gg, 0, none⟩, 2⟩, [⟨sG, (wn : Int), 0⟩, ⟨sH, 1, 0⟩], ⟨some ⟨gv, 0, none⟩, 2⟩, [⟨sV, (wn : Int), 0⟩, ⟨sC, 2, 0⟩], ⟨some ⟨ga, 0, none⟩, 1⟩, [⟨sA, (wn : Int), (an : Int)⟩], (Ex.mk ⟨qk, qo, qv, qw, qn⟩ ⟨qA, qc⟩ qs), ⟨lA, lc⟩, is, lq, procs, ⟨uA, uc⟩, us, ⟨none, 0⟩, [], (Ex.mk ⟨0, 0, 0, 0, ⟨#[]⟩⟩ ⟨none, 0⟩ [])⟩ : Pg Loc) false wn).p = { e0 with hasP := decide (f = 1) } := by rw [← hpd.out, he0.out]; rfl
      have hlow := fun b hb => (hP.own.ge b hb).2
      have hlw : M + 1 ≤ V41.heap.size := hP.lt_size
      have hd0 := hP.nd
      have hc := hP.stmts hsm 3 1 (by omega) (by omega)
      rw [hev] at hc
      obtain ⟨⟨tc, r11⟩, hxc⟩ : ∃ p, stmtsM { e0 with hasP := decide (f = 1) } 3 1 r10 = p := ⟨_, rfl⟩
      rw [hxc] at hc
      replace hc := Lib.hid hc
      replace hxc := Lib.hid hxc
      replace hlow := Lib.hid hlow
      replace hd0 := Lib.hid hd0
      have hMl := hP.lt_size
      have hP' := Lib.hid hP
      clear hP
      clear hev hsm
      go_wp2_with fail
      refine hc.out.mono ?_
      rintro xx V41a ⟨cA, cc, cs, rfl, hcp, hTo, hTn, hP, hO⟩
      try dsimp only at hcp hP
      have hTg := hTo.ge
      have hst : MkP w (V41a.setCell ⟨M, 17, none⟩ (.slice cA cs.length cc)) R M d r11 (⟨(bl : Int), (wn : Int), ⟨some ⟨gi, 0, none⟩, 2⟩, ins, ⟨some ⟨gg, 0, none⟩, 2⟩, [⟨sG, (wn : Int), 0⟩, ⟨sH, 1, 0⟩], ⟨some ⟨gv, 0, none⟩, 2⟩, [⟨sV, (wn : Int), 0⟩, ⟨sC, 2, 0⟩], ⟨some ⟨ga, 0, none⟩, 1⟩, [⟨sA, (wn : Int), (an : Int)⟩], (Ex.mk ⟨qk, qo, qv, qw, qn⟩ ⟨qA, qc⟩ qs), ⟨lA, lc⟩, is, lq, procs, ⟨uA, uc⟩, us, ⟨cA, cc⟩, cs, (Ex.mk ⟨0, 0, 0, 0, ⟨#[]⟩⟩ ⟨none, 0⟩ [])⟩ : Pg Loc) false := hP.b.put 17 (.slice cA cs.length cc) (fun _ => rfl) ⟨hP.own.ins, hP.own.gh, hP.own.va, hP.own.ar, hP.own.req, hP.own.inits, hP.own.procs, hP.own.work, hTo.base_le hlw, hP.own.inv⟩ (nodup_add hd0.out hTn (fun b hb hm => by have := hlow.out b hb; have := (hTg b hm).1; omega) (fun y => by simp only [Pg.fp, Loc.fp, Ex.fp, fps, Lin.fp, fpsI, Lpr.fp, fpsP, Pr.fp, Lst.fp, fpS, List.flatMap_nil, List.flatMap_cons, List.count_append, List.count_nil]; omega))
      have cM := hP.b.cell (i := 17) (by omega) (v := .slice none 0 0) rfl
      have fM := hP.b.frozen 17
      replace hst := Lib.hid hst
      replace hcp := Lib.hid hcp
      clear hTo hTn hTg hP' hc hd0 hlow hMl
      have hMl := hP.lt_size
      have hP' := Lib.hid hP
      clear hP
      go_upto_region 23 with (fail)
      clear cM fM hMl hP' hO
      have hP := hst.out
      clear hst
      generalize V41a.setCell ⟨M, 17, none⟩ _ = V42 at *
      have hsm : Sm (⟨(bl : Int), (wn : Int), ⟨some ⟨gi, 0, none⟩, 2⟩, ins, ⟨some ⟨gg, 0, none⟩, 2⟩, [⟨sG, (wn : Int), 0⟩, ⟨sH, 1, 0⟩], ⟨some ⟨gv, 0, none⟩, 2⟩, [⟨sV, (wn : Int), 0⟩, ⟨sC, 2, 0⟩], ⟨some ⟨ga, 0, none⟩, 1⟩, [⟨sA, (wn : Int), (an : Int)⟩], (Ex.mk ⟨qk, qo, qv, qw, qn⟩ ⟨qA, qc⟩ qs), ⟨lA, lc⟩, is, lq, procs, ⟨uA, uc⟩, us, ⟨cA, cc⟩, cs, (Ex.mk ⟨0, 0, 0, 0, ⟨#[]⟩⟩ ⟨none, 0⟩ [])⟩ : Pg Loc) wn := ⟨rfl, w1, w3, hil2, by simp, by simp, hpl1⟩
      have hev : (evOf (⟨(bl : Int), (wn : Int), ⟨some ⟨gi, 0, none⟩, 2⟩, ins, ⟨some ⟨gg, 0, none⟩, 2⟩, [⟨sG, (wn : Int), 0⟩, ⟨sH, 1, 0⟩], ⟨some ⟨gv, 0, none⟩, 2⟩, [⟨sV, (wn : Int), 0⟩, ⟨sC, 2, 0⟩], ⟨some ⟨ga, 0, none⟩, 1⟩, [⟨sA, (wn : Int), (an : Int)⟩], (Ex.mk ⟨qk, qo, qv, qw, qn⟩ ⟨qA, qc⟩ qs), ⟨lA, lc⟩, is, lq, procs, ⟨uA, uc⟩, us, ⟨cA, cc⟩, cs, (Ex.mk ⟨0, 0, 0, 0, ⟨#[]⟩⟩ ⟨none, 0⟩ [])⟩ : Pg Loc) false wn).p = { e0 with hasP := decide (f = 1) } := by rw [← hpd.out, he0.out]; rfl
      have hlow := fun b hb => (hP.own.ge b hb).2
      have hlw : M + 1 ≤ V42.heap.size := hP.lt_size
      have hd0 := hP.nd
      have hc := hP.expr hsm 3 1 2 (by omega) (by omega) (by omega) (by omega)
      rw [hev] at hc
      obtain ⟨⟨tv, r12⟩, hxv⟩ : ∃ p, exprM { e0 with hasP := decide (f = 1) } 3 1 2 r11 = p := ⟨_, rfl⟩
      rw [hxv] at hc
      replace hc := Lib.hid hc
      replace hxv := Lib.hid hxv
      replace hlow := Lib.hid hlow
      replace hd0 := Lib.hid hd0
      have hMl := hP.lt_size
      have hP' := Lib.hid hP
      clear hP
      clear hev hsm
      go_wp2_with fail
      refine hc.out.mono ?_
      rintro xx V43 ⟨vk, vo, vv, vw, vn, vA, vc, vs, rfl, hvp, hTo, hTn, hP, hO⟩
      try dsimp only at hvp hP
      have hTg := hTo.ge
      have hst : MkP w (V43.setCells M 18 [.int .u8 vk, .int .u8 vo, .int .u32 vv, .int .i64 vw, .string vn, .slice vA vs.length vc]) R M d r12 (⟨(bl : Int), (wn : Int), ⟨some ⟨gi, 0, none⟩, 2⟩, ins, ⟨some ⟨gg, 0, none⟩, 2⟩, [⟨sG, (wn : Int), 0⟩, ⟨sH, 1, 0⟩], ⟨some ⟨gv, 0, none⟩, 2⟩, [⟨sV, (wn : Int), 0⟩, ⟨sC, 2, 0⟩], ⟨some ⟨ga, 0, none⟩, 1⟩, [⟨sA, (wn : Int), (an : Int)⟩], (Ex.mk ⟨qk, qo, qv, qw, qn⟩ ⟨qA, qc⟩ qs), ⟨lA, lc⟩, is, lq, procs, ⟨uA, uc⟩, us, ⟨cA, cc⟩, cs, (Ex.mk ⟨vk, vo, vv, vw, vn⟩ ⟨vA, vc⟩ vs)⟩ : Pg Loc) false := hP.b.puts 16 [.int .u8 vk, .int .u8 vo, .int .u32 vv, .int .i64 vw, .string vn, .slice vA vs.length vc] [.int .u8 0, .int .u8 0, .int .u32 0, .int .i64 0, .string ⟨#[]⟩, .slice none 0 0] [.int .i64 bl, .int .i64 wn, .slice (some ⟨gi, 0, none⟩) ins.length 2, .slice (some ⟨gg, 0, none⟩) 2 2, .slice (some ⟨gv, 0, none⟩) 2 2, .slice (some ⟨ga, 0, none⟩) 1 1, .int .u8 qk, .int .u8 qo, .int .u32 qv, .int .i64 qw, .string qn, .slice qA qs.length qc, .slice lA is.length lc, .slice lq.A procs.length lq.c, .slice uA us.length uc, .slice cA cs.length cc] [.bool false] rfl rfl (fun _ => rfl) (fun _ => rfl) ⟨hP.own.ins, hP.own.gh, hP.own.va, hP.own.ar, hP.own.req, hP.own.inits, hP.own.procs, hP.own.work, hP.own.recov, hTo.base_le hlw⟩ (nodup_add hd0.out hTn (fun b hb hm => by have := hlow.out b hb; have := (hTg b hm).1; omega) (fun y => by simp only [Pg.fp, Loc.fp, Ex.fp, fps, Lin.fp, fpsI, Lpr.fp, fpsP, Pr.fp, Lst.fp, fpS, List.flatMap_nil, List.flatMap_cons, List.count_append, List.count_nil]; omega))
      have hth := hP.b.there (i := 18) (n := 6) (by omega)
      replace hst := Lib.hid hst
      replace hvp := Lib.hid hvp
      clear hTo hTn hTg hP' hc hd0 hlow hMl hO
      have hMl := hP.lt_size
      have hP' := Lib.hid hP
      clear hP
      go_wp2_with (refine wpList_store_at 30 (.tmp 148) (.tmp 145) M 18 #[.int .u8 vk, .int .u8 vo, .int .u32 vv, .int .i64 vw, .string vn, .slice vA vs.length vc] rfl rfl hth (by kernel_rfl) (by simp [Value.oneCell']) ?_; refine Shut.out ?_)
      refine shut_mk ?_
      have hP := hst.out
      clear hst hth hP' hMl
      generalize V43.setCells M 18 _ = V44 at *
      go_upto_region 24 with (fail)
      obtain ⟨at_, hbM, _, _⟩ := hP.b.blk
      have hra := range_mid (o := 2) (pre := [.slice d.LA d.n d.c, .int .i64 at_]) (vs := [.int .i64 bl, .int .i64 wn, .slice (some ⟨gi, 0, none⟩) ins.length 2, .slice (some ⟨gg, 0, none⟩) 2 2, .slice (some ⟨gv, 0, none⟩) 2 2, .slice (some ⟨ga, 0, none⟩) 1 1, .int .u8 qk, .int .u8 qo, .int .u32 qv, .int .i64 qw, .string qn, .slice qA qs.length qc, .slice lA is.length lc, .slice lq.A procs.length lq.c, .slice uA us.length uc, .slice cA cs.length cc, .int .u8 vk, .int .u8 vo, .int .u32 vv, .int .i64 vw, .string vn, .slice vA vs.length vc]) (post := [.bool false]) hbM rfl rfl
      have hres := hP.b.res
      have hRl := hres.lt
      have hfin := blk_setCells [.int .i64 bl, .int .i64 wn, .slice (some ⟨gi, 0, none⟩) ins.length 2, .slice (some ⟨gg, 0, none⟩) 2 2, .slice (some ⟨gv, 0, none⟩) 2 2, .slice (some ⟨ga, 0, none⟩) 1 1, .int .u8 qk, .int .u8 qo, .int .u32 qv, .int .i64 qw, .string qn, .slice qA qs.length qc, .slice lA is.length lc, .slice lq.A procs.length lq.c, .slice uA us.length uc, .slice cA cs.length cc, .int .u8 vk, .int .u8 vo, .int .u32 vv, .int .i64 vw, .string vn, .slice vA vs.length vc] (zP.toList) [] [] 0 V44 (by simpa using hres) rfl rfl
      have hOr := only_setCells (b := R) [.int .i64 bl, .int .i64 wn, .slice (some ⟨gi, 0, none⟩) ins.length 2, .slice (some ⟨gg, 0, none⟩) 2 2, .slice (some ⟨gv, 0, none⟩) 2 2, .slice (some ⟨ga, 0, none⟩) 1 1, .int .u8 qk, .int .u8 qo, .int .u32 qv, .int .i64 qw, .string qn, .slice qA qs.length qc, .slice lA is.length lc, .slice lq.A procs.length lq.c, .slice uA us.length uc, .slice cA cs.length cc, .int .u8 vk, .int .u8 vo, .int .u32 vv, .int .i64 vw, .string vn, .slice vA vs.length vc] 0 V44
      have hRM2 := hP.b.RM
      have hwR := hP.b.wR
      have hown : (⟨(bl : Int), (wn : Int), ⟨some ⟨gi, 0, none⟩, 2⟩, ins, ⟨some ⟨gg, 0, none⟩, 2⟩, [⟨sG, (wn : Int), 0⟩, ⟨sH, 1, 0⟩], ⟨some ⟨gv, 0, none⟩, 2⟩, [⟨sV, (wn : Int), 0⟩, ⟨sC, 2, 0⟩], ⟨some ⟨ga, 0, none⟩, 1⟩, [⟨sA, (wn : Int), (an : Int)⟩], (Ex.mk ⟨qk, qo, qv, qw, qn⟩ ⟨qA, qc⟩ qs), ⟨lA, lc⟩, is, lq, procs, ⟨uA, uc⟩, us, ⟨cA, cc⟩, cs, (Ex.mk ⟨vk, vo, vv, vw, vn⟩ ⟨vA, vc⟩ vs)⟩ : Pg Loc).own (V44.setCells R 0 [.int .i64 bl, .int .i64 wn, .slice (some ⟨gi, 0, none⟩) ins.length 2, .slice (some ⟨gg, 0, none⟩) 2 2, .slice (some ⟨gv, 0, none⟩) 2 2, .slice (some ⟨ga, 0, none⟩) 1 1, .int .u8 qk, .int .u8 qo, .int .u32 qv, .int .i64 qw, .string qn, .slice qA qs.length qc, .slice lA is.length lc, .slice lq.A procs.length lq.c, .slice uA us.length uc, .slice cA cs.length cc, .int .u8 vk, .int .u8 vo, .int .u32 vv, .int .i64 vw, .string vn, .slice vA vs.length vc]) w.heap.size := ((keep_pg _ _).only hP.own hOr (fun b hb hm => by rw [List.mem_singleton] at hm; have := (hP.own.ge b hb).1; omega)).base_le (by omega)
      have hbe : Below w.heap.size w (V44.setCells R 0 [.int .i64 bl, .int .i64 wn, .slice (some ⟨gi, 0, none⟩) ins.length 2, .slice (some ⟨gg, 0, none⟩) 2 2, .slice (some ⟨gv, 0, none⟩) 2 2, .slice (some ⟨ga, 0, none⟩) 1 1, .int .u8 qk, .int .u8 qo, .int .u32 qv, .int .i64 qw, .string qn, .slice qA qs.length qc, .slice lA is.length lc, .slice lq.A procs.length lq.c, .slice uA us.length uc, .slice cA cs.length cc, .int .u8 vk, .int .u8 vo, .int .u32 vv, .int .i64 vw, .string vn, .slice vA vs.length vc]) := hP.b.be.trans (hOr.below hP.b.be.size (by simp; omega))
      have hplain := madeM_eq (l := bytes) (procs := procsU) (e0 := e0) (ins := ins) (by rw [← hr0'.out]; exact hxa1.out) hxa2.out hxki.out (by rw [← hwn.out]; exact hins.out) hxa4.out hxa5.out (by rw [← hwn.out]; exact he0.out) hxq.out (by rw [← hbl'.out]; exact hin.out) hxf.out (by rw [← hwn.out]; exact hpu.out) hr9.out hxu.out hxc.out hxv.out
      rw [← hbl'.out, ← hwn.out, ← han.out] at hplain
      have hthr := there_blk_at hres (o := 0) (n := 22) (by decide)
      replace hown := Lib.hid hown
      replace hbe := Lib.hid hbe
      replace hplain := Lib.hid hplain
      replace hfin := Lib.hid hfin
      have hnd := Lib.hid hP.nd
      have hMl := hP.lt_size
      have hP' := Lib.hid hP
      clear hP
      clear hOr hbM hRM2 hwR
      go_wp2_with (refine wpList_load_mid rfl 35 (.tmp 151) rfl M 2 rfl [.int .i64 bl, .int .i64 wn, .slice (some ⟨gi, 0, none⟩) ins.length 2, .slice (some ⟨gg, 0, none⟩) 2 2, .slice (some ⟨gv, 0, none⟩) 2 2, .slice (some ⟨ga, 0, none⟩) 1 1, .int .u8 qk, .int .u8 qo, .int .u32 qv, .int .i64 qw, .string qn, .slice qA qs.length qc, .slice lA is.length lc, .slice lq.A procs.length lq.c, .slice uA us.length uc, .slice cA cs.length cc, .int .u8 vk, .int .u8 vo, .int .u32 vv, .int .i64 vw, .string vn, .slice vA vs.length vc] _ hra Try.underlying35 rfl (by kernel_rfl) ?_; refine Shut.out ?_)
      refine shut_mk ?_
      refine wpList_store_mid rfl 35 (.tmp 2) (.tmp 152) rfl R 0 #[.int .i64 bl, .int .i64 wn, .slice (some ⟨gi, 0, none⟩) ins.length 2, .slice (some ⟨gg, 0, none⟩) 2 2, .slice (some ⟨gv, 0, none⟩) 2 2, .slice (some ⟨ga, 0, none⟩) 1 1, .int .u8 qk, .int .u8 qo, .int .u32 qv, .int .i64 qw, .string qn, .slice qA qs.length qc, .slice lA is.length lc, .slice lq.A procs.length lq.c, .slice uA us.length uc, .slice cA cs.length cc, .int .u8 vk, .int .u8 vo, .int .u32 vv, .int .i64 vw, .string vn, .slice vA vs.length vc] rfl rfl hthr (by kernel_rfl) (by simp [Value.oneCell']) ?_
      refine wpList_nil ?_
      try simp only [Act.put, List.setIfInBounds_toArray, List.set_cons_zero, List.set_cons_succ]
      rename (∀ (a : Act) (w : World), Code.wp Try.prog Code.ret _ a w → _) => hkk
      refine hkk _ _ ?_
      refine wp_ret ?_
      try simp only [Exit.then]
      refine bodyPost_ret (results_cell_row rfl _ _ R 35 _ (0, 0) _ rfl hfin.out Try.underlying35 rfl (by kernel_rfl)) rfl ?_
      refine ⟨(⟨(bl : Int), (wn : Int), ⟨some ⟨gi, 0, none⟩, 2⟩, ins, ⟨some ⟨gg, 0, none⟩, 2⟩, [⟨sG, (wn : Int), 0⟩, ⟨sH, 1, 0⟩], ⟨some ⟨gv, 0, none⟩, 2⟩, [⟨sV, (wn : Int), 0⟩, ⟨sC, 2, 0⟩], ⟨some ⟨ga, 0, none⟩, 1⟩, [⟨sA, (wn : Int), (an : Int)⟩], (Ex.mk ⟨qk, qo, qv, qw, qn⟩ ⟨qA, qc⟩ qs), ⟨lA, lc⟩, is, lq, procs, ⟨uA, uc⟩, us, ⟨cA, cc⟩, cs, (Ex.mk ⟨vk, vo, vv, vw, vn⟩ ⟨vA, vc⟩ vs)⟩ : Pg Loc), rfl, ?_, hown.out, hnd.out, hbe.out⟩
      rw [hplain.out, ← hEq.out, ← hpp.out, ← hup.out, ← hcp.out, ← hvp.out]
      rfl
end Go.Proofs.Ytnldbplphgfpeaa
