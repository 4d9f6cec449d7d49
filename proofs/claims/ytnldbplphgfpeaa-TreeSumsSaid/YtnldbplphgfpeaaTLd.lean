/- The law on copies. -/
import Derived.Test.YtnldbplphgfpeaaTLc
namespace Go.Proofs.Ytnldbplphgfpeaa
open Go Go.RowKit Go.Shelf
set_option linter.unusedVariables false
set_option linter.unusedSimpArgs false
set_option maxHeartbeats 8000000
/-- What is not wanted is passed over. -/
theorem skipH {P : Program} {md : Region.Mode} {L : List Oper} {Q : Exit → Act → World → Prop} {S : World → Prop} (i : Nat) {oi : Oper} {fuel : Nat} {listed : Array Bool} {a : Act} {w : World} (hi : L[i]? = some oi)
    (hs : Region.noSelect L.toArray = true) (hf : Region.free md L.toArray listed i = true) (hr : (Region.ready md L.toArray listed).contains i = true)
    (hQ : ∀ c a w, Q (.panic c) (a.put oi.dst undef) w → Q (.panic c) a w) (hw : Region.wanted oi (yielded L.toArray a.tmps) = false) (hS : S w)
    (h : wpAnyH P md L.toArray Q S fuel (listed.setIfInBounds i true) (a.put oi.dst undef) w) : wpAnyH P md L.toArray Q S (fuel + 1) listed a w :=
  wpAnyH_take (by simpa using hi) hs hf hr hQ (Or.inr ⟨hw, rfl⟩) hS h
section
variable {W W' : World} {base base' : Nat} {p q : Pg Loc} {cs cq : Array Value}
theorem same_o (h : cs = (p.cells eT).toArray) (k : cq = (q.cells eT).toArray) (hp : p.ok eT W) (hq : q.ok eT W) (s1 : p.sz ≤ 20000) (s2 : q.sz ≤ 20000) : Calls Try.prog 12 #[.agg cs, .agg cq] W fun x w' => x = .returned (.bool (p.same q)) ∧ Below W.heap.size W w' := by
  rw [h, k]
  exact sameP_yes p q W hp hq s1 s2
theorem cs_at (h : Prg W base p cs) : cs[2]? = some (.slice p.li.A p.ins.length p.li.c) ∧ cs[3]? = some (.slice p.lg.A p.gh.length p.lg.c) ∧ cs[4]? = some (.slice p.lv.A p.va.length p.lv.c) ∧ cs[5]? = some (.slice p.la.A p.ar.length p.la.c) ∧
    cs[12]? = some (.slice p.ln.A p.inits.length p.ln.c) ∧ cs[13]? = some (.slice p.lpr.A p.procs.length p.lpr.c) ∧ cs[14]? = some (.slice p.lw.A p.work.length p.lw.c) ∧ cs[15]? = some (.slice p.lr.A p.recov.length p.lr.c) := by
  rw [h.cs]
  obtain ⟨bl, wd, li, ins, lg, gh, lv, va, la, ar, ⟨rh, rl, rs⟩, ln, inits, lpr, procs, lw, work, lr, recov, ⟨ih, il, is⟩⟩ := p
  exact ⟨rfl, rfl, rfl, rfl, rfl, rfl, rfl, rfl⟩
/-- The cells of what is required, and of the invariant. -/
theorem cs_req (h : Prg W base p cs) {g t : Nat} {V : World} (hb : Blk V g t cs) : V.rangeAt g 6 (p.req.cells eT) :=
  range_blk' (pre := [.int .i64 p.bl, .int .i64 p.wd, .slice p.li.A p.ins.length p.li.c, .slice p.lg.A p.gh.length p.lg.c, .slice p.lv.A p.va.length p.lv.c, .slice p.la.A p.ar.length p.la.c]) hb (by rw [h.cs]; rfl) rfl
theorem cs_inv (h : Prg W base p cs) {g t : Nat} {V : World} (hb : Blk V g t cs) : V.rangeAt g 16 (p.inv.cells eT) :=
  range_blk' (pre := [.int .i64 p.bl, .int .i64 p.wd, .slice p.li.A p.ins.length p.li.c, .slice p.lg.A p.gh.length p.lg.c, .slice p.lv.A p.va.length p.lv.c, .slice p.la.A p.ar.length p.la.c] ++ (p.req.cells eT ++ [.slice p.ln.A p.inits.length p.ln.c, .slice p.lpr.A p.procs.length p.lpr.c, .slice p.lw.A p.work.length p.lw.c, .slice p.lr.A p.recov.length p.lr.c])) (post := []) hb (by rw [h.cs]; simp [Pg.cells]) (by simp [Ex.cells_len])
end
theorem load_expr {S : World → Prop} {oi : Oper} {a : Act} (x : Operand) (ho : oi.op = .load 30 x) (b o : Nat) (hx : a.eval x = .pointer (some ⟨b, o, none⟩)) (e : Ex Loc) (hS : ∀ w, S w → w.rangeAt b o (e.cells eT)) : ∀ w, S w → (execOp a.eval oi).run Try.prog w = .ok (.value (aggX e)) w :=
  load_range (P := Try.prog) 30 x ho b o hx (e.cells eT) _ hS Try.underlying30 rfl (by rw [Ex.cells_len]; kernel_rfl)
/-- What stays while copies are compared. -/
structure CS (w : World) (ga gb gc : Nat) (LA LB LC : Pg Loc) (ca cb cc : Array Value) (A : Option Addr) (n c : Nat) (bs : List Nat) (W : World) : Prop where
  ba : Blk W ga 35 ca
  bb : Blk W gb 35 cb
  bc : Blk W gc 35 cc
  pa : Prg W w.heap.size LA ca
  pb : Prg W w.heap.size LB cb
  pc : Prg W w.heap.size LC cc
  byt : Byt W A n c bs
  be : Below w.heap.size w W
theorem CS.new {w : World} {ga gb gc : Nat} {LA LB LC : Pg Loc} {ca cb cc : Array Value} {A : Option Addr} {n c : Nat} {bs : List Nat} {W W' : World} (h : CS w ga gb gc LA LB LC ca cb cc A n c bs W) (hb : Below W.heap.size W W') : CS w ga gb gc LA LB LC ca cb cc A n c bs W' :=
  ⟨h.ba.below hb h.ba.lt, h.bb.below hb h.bb.lt, h.bc.below hb h.bc.lt, h.pa.new hb, h.pb.new hb, h.pc.new hb, h.byt.below hb, below_and h.be hb⟩
/-- And behind Over. -/
structure CT (w : World) (ga gc : Nat) (LA LO : Pg Loc) (ca cc : Array Value) (A : Option Addr) (n c : Nat) (bs : List Nat) (W : World) : Prop where
  ba : Blk W ga 35 ca
  bc : Blk W gc 35 cc
  pa : Prg W w.heap.size LA ca
  po : LO.ok eT W
  co : cc = (LO.cells eT).toArray
  byt : Byt W A n c bs
  be : Below w.heap.size w W
theorem CT.new {w : World} {ga gc : Nat} {LA LO : Pg Loc} {ca cc : Array Value} {A : Option Addr} {n c : Nat} {bs : List Nat} {W W' : World} (h : CT w ga gc LA LO ca cc A n c bs W) (hb : Below W.heap.size W W') : CT w ga gc LA LO ca cc A n c bs W' :=
  ⟨h.ba.below hb h.ba.lt, h.bc.below hb h.bc.lt, h.pa.new hb, h.po.below hb, h.co, h.byt.below hb, below_and h.be hb⟩
theorem blk_put {b t : Nat} {W : World} {cs vs : Array Value} (h : Blk W b t cs) (hs : vs.size = cs.size) : Blk (W.setCells b 0 vs.toList) b t vs := by
  have := blk_setCells vs.toList cs.toList [] [] 0 W (by simpa using h) rfl (by simp [hs])
  simpa using this
theorem i64_id {x : Int} (h1 : -9223372036854775808 ≤ x) (h2 : x < 9223372036854775808) : IntKind.i64.wrap x = x := by
  simp [IntKind.wrap, IntKind.bits, IntKind.signed]; omega
set_option maxRecDepth 100000 in
theorem copies_ok (A1 A2 : Option Addr) (n1 c1 n2 c2 : Nat) (bk bl : List Nat) (w : World) (h1 : Byt w A1 n1 c1 bk) (h2 : Byt w A2 n2 c2 bl) :
    Calls Try.prog 3 #[.slice A1 n1 c1, .slice A2 n2 c2] w fun e w' => e = .returned (.bool true) ∧ Below w.heap.size w w' := by
  have h1' := Lib.hid h1
  have h2' := Lib.hid h2
  clear h1 h2
  go_enter Try.func3, Try.ntmps3
  go_wp2_with fail
  refine (awake_ok w).mono ?_
  rintro e W1 ⟨rfl, hB1⟩
  have hb1 := h1'.out.below hB1
  replace hB1 := Lib.hid hB1
  go_wp2_with fail
  refine (made_c hb1).mono ?_
  rintro e W2 ⟨LA, ca, rfl, pa, PA, hB2⟩
  have hB12 := below_and hB1.out hB2
  have hb2 := h2'.out.below hB12
  replace hB12 := Lib.hid hB12
  replace pa := Lib.hid pa
  replace PA := Lib.hid PA
  replace hB2 := Lib.hid hB2
  clear hb1
  go_wp2_with fail
  refine (made_c hb2).mono ?_
  rintro e W3 ⟨LB, cb, rfl, pb, PB, hB3⟩
  replace PA := Lib.hid ((PA.out.new hB3).base_le (base' := w.heap.size) hB1.out.size)
  replace PB := Lib.hid (PB.base_le (base' := w.heap.size) hB12.out.size)
  have hB13 := Lib.hid (below_and hB12.out hB3)
  replace pb := Lib.hid pb
  have sa := PA.out.size
  have sb := PB.out.size
  have oa := PA.out.one
  have ob := PB.out.one
  clear hb2 hB3
  obtain ⟨ga, hga⟩ : ∃ g, g = W3.heap.size := ⟨_, rfl⟩
  obtain ⟨W4, hW4⟩ : ∃ W, W = (W3.alloc (.cells #[.int .i64 0, .int .i64 0, .slice none 0 0, .slice none 0 0, .slice none 0 0, .slice none 0 0, .int .u8 0, .int .u8 0, .int .u32 0, .int .i64 0, .string ⟨#[]⟩, .slice none 0 0, .slice none 0 0, .slice none 0 0, .slice none 0 0, .slice none 0 0, .int .u8 0, .int .u8 0, .int .u32 0, .int .i64 0, .string ⟨#[]⟩, .slice none 0 0] 35)).alloc (.cells #[.int .i64 0, .int .i64 0, .slice none 0 0, .slice none 0 0, .slice none 0 0, .slice none 0 0, .int .u8 0, .int .u8 0, .int .u32 0, .int .i64 0, .string ⟨#[]⟩, .slice none 0 0, .slice none 0 0, .slice none 0 0, .slice none 0 0, .slice none 0 0, .int .u8 0, .int .u8 0, .int .u32 0, .int .i64 0, .string ⟨#[]⟩, .slice none 0 0] 35) := ⟨_, rfl⟩
  have hB4 : Below W3.heap.size W3 W4 := by rw [hW4]; exact ((Below.refl _ W3).alloc (Nat.le_refl _) _).alloc (by simp) _
  have xa : Blk W4 ga 35 #[.int .i64 0, .int .i64 0, .slice none 0 0, .slice none 0 0, .slice none 0 0, .slice none 0 0, .int .u8 0, .int .u8 0, .int .u32 0, .int .i64 0, .string ⟨#[]⟩, .slice none 0 0, .slice none 0 0, .slice none 0 0, .slice none 0 0, .slice none 0 0, .int .u8 0, .int .u8 0, .int .u32 0, .int .i64 0, .string ⟨#[]⟩, .slice none 0 0] := by rw [hW4, hga]; exact (Blk.new W3 35 #[.int .i64 0, .int .i64 0, .slice none 0 0, .slice none 0 0, .slice none 0 0, .slice none 0 0, .int .u8 0, .int .u8 0, .int .u32 0, .int .i64 0, .string ⟨#[]⟩, .slice none 0 0, .slice none 0 0, .slice none 0 0, .slice none 0 0, .slice none 0 0, .int .u8 0, .int .u8 0, .int .u32 0, .int .i64 0, .string ⟨#[]⟩, .slice none 0 0]).alloc _
  have xb : Blk W4 (ga + 1) 35 #[.int .i64 0, .int .i64 0, .slice none 0 0, .slice none 0 0, .slice none 0 0, .slice none 0 0, .int .u8 0, .int .u8 0, .int .u32 0, .int .i64 0, .string ⟨#[]⟩, .slice none 0 0, .slice none 0 0, .slice none 0 0, .slice none 0 0, .slice none 0 0, .int .u8 0, .int .u8 0, .int .u32 0, .int .i64 0, .string ⟨#[]⟩, .slice none 0 0] := by
    have := Blk.new (W3.alloc (.cells #[.int .i64 0, .int .i64 0, .slice none 0 0, .slice none 0 0, .slice none 0 0, .slice none 0 0, .int .u8 0, .int .u8 0, .int .u32 0, .int .i64 0, .string ⟨#[]⟩, .slice none 0 0, .slice none 0 0, .slice none 0 0, .slice none 0 0, .slice none 0 0, .int .u8 0, .int .u8 0, .int .u32 0, .int .i64 0, .string ⟨#[]⟩, .slice none 0 0] 35)) 35 #[.int .i64 0, .int .i64 0, .slice none 0 0, .slice none 0 0, .slice none 0 0, .slice none 0 0, .int .u8 0, .int .u8 0, .int .u32 0, .int .i64 0, .string ⟨#[]⟩, .slice none 0 0, .slice none 0 0, .slice none 0 0, .slice none 0 0, .slice none 0 0, .int .u8 0, .int .u8 0, .int .u32 0, .int .i64 0, .string ⟨#[]⟩, .slice none 0 0]
    rw [World.size_alloc] at this
    rw [hW4, hga]; exact this
  have hB5a := only_setCells (b := ga) ca.toList 0 W4
  have hB5b := only_setCells (b := ga + 1) cb.toList 0 (W4.setCells ga 0 ca.toList)
  have xb' := xb.only hB5a (by simp)
  have ya := (blk_put xa (by rw [sa]; rfl)).only hB5b (by simp)
  have yb := blk_put xb' (by rw [sb]; rfl)
  have hB5 : Below W3.heap.size W3 ((W4.setCells ga 0 ca.toList).setCells (ga + 1) 0 cb.toList) := hB4.trans ((hB5a.below (by have := hB4.size; omega) (by simp; omega)).trans (hB5b.below (by have := hB5a.size; have := hB4.size; omega) (by simp; omega)))
  have ta := there_blk_at xa (o := 0) (n := 22) (by decide)
  have tb := there_blk_at xb' (o := 0) (n := 22) (by decide)
  have hw5 := hB5.size
  replace hB5 := Lib.hid hB5
  replace ya := Lib.hid ya
  replace yb := Lib.hid yb
  clear xa xb xb' hB5a hB5b hB4
  have hga' := Lib.hid hga
  have hW4' := Lib.hid hW4
  clear hga hW4
  go_wp2_with (first
    | (refine wpList_store_at 35 (.tmp 5) (.tmp 16) W3.heap.size 0 ca rfl rfl (by rw [sa, ← hga'.out, ← hW4'.out]; exact ta) (by rw [sa]; kernel_rfl) oa ?_; refine Shut.out ?_))
  refine shut_mk ?_
  try simp only [Act.put, List.setIfInBounds_toArray, List.set_cons_zero, List.set_cons_succ]
  rw [← hW4'.out, ← hga'.out]
  refine wpList_store_at 35 (.tmp 6) (.tmp 18) (ga + 1) 0 cb rfl (by rfl) (by rw [sb]; exact tb) (by rw [sb]; kernel_rfl) ob ?_
  try simp only [Act.put, List.setIfInBounds_toArray, List.set_cons_zero, List.set_cons_succ]
  have hyp := And.intro ya.out (And.intro yb.out hB5.out)
  clear ya yb hB5 ta tb hw5
  generalize (W4.setCells ga 0 ca.toList).setCells (ga + 1) 0 cb.toList = W5 at *
  obtain ⟨ya, yb, hB5⟩ := hyp
  clear hW4'
  obtain ⟨gb, hgb⟩ : ∃ g, g = ga + 1 := ⟨_, rfl⟩
  rw [← hgb] at yb ⊢
  replace PA := Lib.hid (PA.out.new hB5)
  replace PB := Lib.hid (PB.out.new hB5)
  have hB05 := Lib.hid (below_and hB13.out hB5)
  have qa := made_sz pa.out
  have sza : LA.sz ≤ 20000 := by omega
  have qb := made_sz pb.out
  have szb : LB.sz ≤ 20000 := by omega
  have lga := ya.lt
  have hcy := copy_c PA.out sza
  replace hcy := Lib.hid hcy
  replace hgb := Lib.hid hgb
  clear hB13 hB12 hB5 hB2 hB1
  go_wp2_with (refine wpList_load_rowW 35 (.tmp 5) rfl (by rfl) ga rfl 35 ca (0, 0) _ ya Try.underlying35 rfl (by rw [sa]; kernel_rfl) ?_; refine Shut.out ?_)
  refine shut_mk ?_
  go_wp2_with fail
  refine hcy.out.mono ?_
  rintro e W6 ⟨LC, cc, rfl, pc, PC, hB6⟩
  have gC := PC.own.ge
  have gA := PA.out.own.ge
  obtain ⟨gc, hgc⟩ : ∃ g, g = W6.heap.size := ⟨_, rfl⟩
  have hBx := (Below.refl _ W6).alloc (Nat.le_refl _) (.cells #[.int .i64 0, .int .i64 0, .slice none 0 0, .slice none 0 0, .slice none 0 0, .slice none 0 0, .int .u8 0, .int .u8 0, .int .u32 0, .int .i64 0, .string ⟨#[]⟩, .slice none 0 0, .slice none 0 0, .slice none 0 0, .slice none 0 0, .slice none 0 0, .int .u8 0, .int .u8 0, .int .u32 0, .int .i64 0, .string ⟨#[]⟩, .slice none 0 0] 35)
  have xc : Blk (W6.alloc (.cells #[.int .i64 0, .int .i64 0, .slice none 0 0, .slice none 0 0, .slice none 0 0, .slice none 0 0, .int .u8 0, .int .u8 0, .int .u32 0, .int .i64 0, .string ⟨#[]⟩, .slice none 0 0, .slice none 0 0, .slice none 0 0, .slice none 0 0, .slice none 0 0, .int .u8 0, .int .u8 0, .int .u32 0, .int .i64 0, .string ⟨#[]⟩, .slice none 0 0] 35)) gc 35 #[.int .i64 0, .int .i64 0, .slice none 0 0, .slice none 0 0, .slice none 0 0, .slice none 0 0, .int .u8 0, .int .u8 0, .int .u32 0, .int .i64 0, .string ⟨#[]⟩, .slice none 0 0, .slice none 0 0, .slice none 0 0, .slice none 0 0, .slice none 0 0, .int .u8 0, .int .u8 0, .int .u32 0, .int .i64 0, .string ⟨#[]⟩, .slice none 0 0] := by rw [hgc]; exact Blk.new W6 35 #[.int .i64 0, .int .i64 0, .slice none 0 0, .slice none 0 0, .slice none 0 0, .slice none 0 0, .int .u8 0, .int .u8 0, .int .u32 0, .int .i64 0, .string ⟨#[]⟩, .slice none 0 0, .slice none 0 0, .slice none 0 0, .slice none 0 0, .slice none 0 0, .int .u8 0, .int .u8 0, .int .u32 0, .int .i64 0, .string ⟨#[]⟩, .slice none 0 0]
  have sc := PC.size
  have oc := PC.one
  have hO7 := only_setCells (b := gc) cc.toList 0 (W6.alloc (.cells #[.int .i64 0, .int .i64 0, .slice none 0 0, .slice none 0 0, .slice none 0 0, .slice none 0 0, .int .u8 0, .int .u8 0, .int .u32 0, .int .i64 0, .string ⟨#[]⟩, .slice none 0 0, .slice none 0 0, .slice none 0 0, .slice none 0 0, .slice none 0 0, .int .u8 0, .int .u8 0, .int .u32 0, .int .i64 0, .string ⟨#[]⟩, .slice none 0 0] 35))
  have hB67 : Below W6.heap.size W6 ((W6.alloc (.cells #[.int .i64 0, .int .i64 0, .slice none 0 0, .slice none 0 0, .slice none 0 0, .slice none 0 0, .int .u8 0, .int .u8 0, .int .u32 0, .int .i64 0, .string ⟨#[]⟩, .slice none 0 0, .slice none 0 0, .slice none 0 0, .slice none 0 0, .slice none 0 0, .int .u8 0, .int .u8 0, .int .u32 0, .int .i64 0, .string ⟨#[]⟩, .slice none 0 0] 35)).setCells gc 0 cc.toList) := hBx.trans (hO7.below (by simp) (by simp; omega))
  have yc := blk_put xc (by rw [sc]; rfl)
  have tc := there_blk_at xc (o := 0) (n := 22) (by decide)
  have hB57 := below_and hB6 hB67
  have s56 := hB6.size
  have hS0 : CS w ga gb gc LA LB LC ca cb cc A1 n1 c1 bk ((W6.alloc (.cells #[.int .i64 0, .int .i64 0, .slice none 0 0, .slice none 0 0, .slice none 0 0, .slice none 0 0, .int .u8 0, .int .u8 0, .int .u32 0, .int .i64 0, .string ⟨#[]⟩, .slice none 0 0, .slice none 0 0, .slice none 0 0, .slice none 0 0, .slice none 0 0, .int .u8 0, .int .u8 0, .int .u32 0, .int .i64 0, .string ⟨#[]⟩, .slice none 0 0] 35)).setCells gc 0 cc.toList) :=
    ⟨ya.below hB57 ya.lt, yb.below hB57 yb.lt, yc, PA.out.new hB57, PB.out.new hB57, (PC.new hB67).base_le hB05.out.size, h1'.out.below (below_and hB05.out hB57), below_and hB05.out hB57⟩
  have dC : ∀ b ∈ LC.fp, W5.heap.size ≤ b ∧ b < gc := fun b hb => by have := gC b hb; omega
  have dA : ∀ b ∈ LA.fp, b < W5.heap.size := fun b hb => (gA b hb).2
  have lga5 := ya.lt
  have szc : LC.sz ≤ 20000 := by rw [← Pg.sz_plain, pc, Pg.sz_plain]; exact sza
  have hw05 := hB05.out.size
  replace hS0 := Lib.hid hS0
  replace dC := Lib.hid dC
  replace dA := Lib.hid dA
  replace pc := Lib.hid pc
  have hgc' := Lib.hid hgc
  clear hgc gC gA hBx xc hO7 hB67 yc hB57 PC hB6 ya yb PA PB hB05 hcy
  go_wp2_with (refine wpList_store_at 35 (.tmp 7) (.tmp 20) W6.heap.size 0 cc rfl rfl (by rw [sc, ← hgc'.out]; exact tc) (by rw [sc]; kernel_rfl) oc ?_; refine Shut.out ?_)
  refine shut_mk ?_
  try simp only [Act.put, List.setIfInBounds_toArray, List.set_cons_zero, List.set_cons_succ]
  rw [← hgc'.out]
  have hS := hS0.out
  clear hS0 tc
  generalize (W6.alloc (.cells #[.int .i64 0, .int .i64 0, .slice none 0 0, .slice none 0 0, .slice none 0 0, .slice none 0 0, .int .u8 0, .int .u8 0, .int .u32 0, .int .i64 0, .string ⟨#[]⟩, .slice none 0 0, .slice none 0 0, .slice none 0 0, .slice none 0 0, .slice none 0 0, .int .u8 0, .int .u8 0, .int .u32 0, .int .i64 0, .string ⟨#[]⟩, .slice none 0 0] 35)).setCells gc 0 cc.toList = W7 at *
  clear s56 hgc'
  go_upto_region 5 with (fail)
  obtain ⟨q, hq⟩ : ∃ q, LA.same LB = q := ⟨_, rfl⟩
  have hq' : LB.same LA = q := by rw [← same_comm, hq]
  have hca : LC.same LA = true := same_true pc.out
  have k2 := cs_at hS.pa
  obtain ⟨k2, k3, k4, k5, k12, k13, k14, k15⟩ := k2
  have hSd := hS.new ((Below.refl _ W7).drew)
  have hcL : ∀ W, CS w ga gb gc LA LB LC ca cb cc A1 n1 c1 bk W → Calls Try.prog 11 #[.agg ca] W fun x w' => x = .returned (.bool true) ∧ Below W.heap.size W w' := fun W h => light_c h.pa sza
  have hcCA : ∀ W, CS w ga gb gc LA LB LC ca cb cc A1 n1 c1 bk W → Calls Try.prog 12 #[.agg cc, .agg ca] W fun x w' => x = .returned (.bool true) ∧ Below W.heap.size W w' := fun W h => by
    have := same_c h.pc h.pa szc sza
    rw [hca] at this
    exact this
  have hcM : ∀ W, CS w ga gb gc LA LB LC ca cb cc A1 n1 c1 bk W → Calls Try.prog 9 #[.slice A1 n1 c1] W fun x w' => ∃ (L : Pg Loc) (cl : Array Value), x = .returned (.agg cl) ∧ L.plain = madeM bk ∧ Prg w' W.heap.size L cl ∧ Below W.heap.size W w' := fun W h => made_c h.byt
  have hcAM : ∀ W (L : Pg Loc) (cl : Array Value) (b : Nat), CS w ga gb gc LA LB LC ca cb cc A1 n1 c1 bk W → L.plain = madeM bk → Prg W b L cl → Calls Try.prog 12 #[.agg ca, .agg cl] W fun x w' => x = .returned (.bool true) ∧ Below W.heap.size W w' := fun W L cl b h hl hp => by
    have := same_c h.pa hp sza (by have := made_sz hl; omega)
    rw [same_true (pa.out.trans hl.symm)] at this
    exact this
  have hcAB : ∀ W, CS w ga gb gc LA LB LC ca cb cc A1 n1 c1 bk W → Calls Try.prog 12 #[.agg ca, .agg cb] W fun x w' => x = .returned (.bool q) ∧ Below W.heap.size W w' := fun W h => by
    have := same_c h.pa h.pb sza szb
    rw [hq] at this
    exact this
  have hcBA : ∀ W, CS w ga gb gc LA LB LC ca cb cc A1 n1 c1 bk W → Calls Try.prog 12 #[.agg cb, .agg ca] W fun x w' => x = .returned (.bool q) ∧ Below W.heap.size W w' := fun W h => by
    have := same_c h.pb h.pa szb sza
    rw [hq'] at this
    exact this
  have hcSA : ∀ W, CS w ga gb gc LA LB LC ca cb cc A1 n1 c1 bk W → Calls Try.prog 13 #[.agg ca] W fun x w' => x = .returned (.int .i64 (LA.sz : Nat)) ∧ Below W.heap.size W w' := fun W h => size_c h.pa sza
  have hcSB : q = true → ∀ W, CS w ga gb gc LA LB LC ca cb cc A1 n1 c1 bk W → Calls Try.prog 13 #[.agg cb] W fun x w' => x = .returned (.int .i64 (LA.sz : Nat)) ∧ Below W.heap.size W w' := fun h0 W h => by
    have := size_c h.pb szb
    rw [h0] at hq
    rw [← Pg.sz_plain LB, ← Pg.same_iff.1 hq, Pg.sz_plain] at this
    exact this
  replace hq := Lib.hid hq
  replace hq' := Lib.hid hq'
  replace hca := Lib.hid hca
  replace hcL := Lib.hid hcL
  replace hcCA := Lib.hid hcCA
  replace hcM := Lib.hid hcM
  replace hcAM := Lib.hid hcAM
  replace hcAB := Lib.hid hcAB
  replace hcBA := Lib.hid hcBA
  replace hcSA := Lib.hid hcSA
  replace hcSB := Lib.hid hcSB
  replace k2 := Lib.hid k2
  replace k3 := Lib.hid k3
  replace k4 := Lib.hid k4
  replace k5 := Lib.hid k5
  replace k12 := Lib.hid k12
  replace k13 := Lib.hid k13
  replace k14 := Lib.hid k14
  replace k15 := Lib.hid k15
  have hS' := Lib.hid hS
  clear hS
  try dsimp only
  clear hS'
  go_cut [57] from 21 to 57 (fun v wx => v = .bool false ∧ CS w ga gb gc LA LB LC ca cb cc A1 n1 c1 bk wx)
  case first =>
    have hS := hSd
    clear hSd
    refine wp_region_held (S := CS w ga gb gc LA LB LC ca cb cc A1 n1 c1 bk) (by kernel_rfl) ?_
    change wpAnyH _ _ _ _ _ _ _ _ (World.drew _)
    cases q
    · skip
      refine takeH 0 rfl (by kernel_rfl) (by kernel_rfl) (by kernel_rfl) (fun _ _ _ h => h) (by rfl) hS (load_row22 (.tmp 5) rfl ga rfl ca sa (fun w h => h.ba)) ?_
      try simp only [Act.put, List.setIfInBounds_toArray, List.set_cons_zero, List.set_cons_succ]
      refine callH 1 rfl (by kernel_rfl) (fun K hK => ?_)
      go_simp
      go_wp2_with (go_at_call 11; refine (hcL.out _ hS).mono ?_; rintro e V1 ⟨rfl, hB⟩)
      refine hK.out _ _ (hS.new hB) (fun hSn => ?_)
      clear hK K hS
      have hS := hSn
      clear hSn
      refine takeH 2 (v := ?_) rfl (by kernel_rfl) (by kernel_rfl) (by kernel_rfl) (fun _ _ _ h => h) (by rfl) hS ?_ ?_
      rotate_left
      · (intro wz hSw; clear hSw; go_simp; try with_reducible rfl)
      try simp only [Act.put, List.setIfInBounds_toArray, List.set_cons_zero, List.set_cons_succ]
      refine takeH 3 (v := ?_) rfl (by kernel_rfl) (by kernel_rfl) (by kernel_rfl) (fun _ _ _ h => h) (by rfl) hS ?_ ?_
      rotate_left
      · (intro wz hSw; clear hSw; go_simp; try with_reducible rfl)
      try simp only [Act.put, List.setIfInBounds_toArray, List.set_cons_zero, List.set_cons_succ]
      refine takeH 4 rfl (by kernel_rfl) (by kernel_rfl) (by kernel_rfl) (fun _ _ _ h => h) (by rfl) hS (load_row22 (.tmp 7) rfl gc rfl cc sc (fun w h => h.bc)) ?_
      try simp only [Act.put, List.setIfInBounds_toArray, List.set_cons_zero, List.set_cons_succ]
      refine takeH 5 rfl (by kernel_rfl) (by kernel_rfl) (by kernel_rfl) (fun _ _ _ h => h) (by rfl) hS (load_row22 (.tmp 5) rfl ga rfl ca sa (fun w h => h.ba)) ?_
      try simp only [Act.put, List.setIfInBounds_toArray, List.set_cons_zero, List.set_cons_succ]
      refine callH 6 rfl (by kernel_rfl) (fun K hK => ?_)
      go_simp
      go_wp2_with (go_at_call 12; refine (hcCA.out _ hS).mono ?_; rintro e V2 ⟨rfl, hB⟩)
      refine hK.out _ _ (hS.new hB) (fun hSn => ?_)
      clear hK K hS
      have hS := hSn
      clear hSn
      refine takeH 7 (v := ?_) rfl (by kernel_rfl) (by kernel_rfl) (by kernel_rfl) (fun _ _ _ h => h) (by rfl) hS ?_ ?_
      rotate_left
      · (intro wz hSw; clear hSw; go_simp; try with_reducible rfl)
      try simp only [Act.put, List.setIfInBounds_toArray, List.set_cons_zero, List.set_cons_succ]
      refine takeH 8 (v := ?_) rfl (by kernel_rfl) (by kernel_rfl) (by kernel_rfl) (fun _ _ _ h => h) (by rfl) hS ?_ ?_
      rotate_left
      · (intro wz hSw; clear hSw; go_simp; try with_reducible rfl)
      try simp only [Act.put, List.setIfInBounds_toArray, List.set_cons_zero, List.set_cons_succ]
      refine takeH 9 (v := ?_) rfl (by kernel_rfl) (by kernel_rfl) (by kernel_rfl) (fun _ _ _ h => h) (by rfl) hS ?_ ?_
      rotate_left
      · (intro wz hSw; clear hSw; go_simp; try with_reducible rfl)
      try simp only [Act.put, List.setIfInBounds_toArray, List.set_cons_zero, List.set_cons_succ]
      refine takeH 11 (v := ?_) rfl (by kernel_rfl) (by kernel_rfl) (by kernel_rfl) (fun _ _ _ h => h) (by rfl) hS ?_ ?_
      rotate_left
      · (intro wz hSw; clear hSw; go_simp; try with_reducible rfl)
      try simp only [Act.put, List.setIfInBounds_toArray, List.set_cons_zero, List.set_cons_succ]
      refine takeH 10 rfl (by kernel_rfl) (by kernel_rfl) (by kernel_rfl) (fun _ _ _ h => h) (by rfl) hS (load_row22 (.tmp 5) rfl ga rfl ca sa (fun w h => h.ba)) ?_
      try simp only [Act.put, List.setIfInBounds_toArray, List.set_cons_zero, List.set_cons_succ]
      refine callH 12 rfl (by kernel_rfl) (fun K hK => ?_)
      go_simp
      go_wp2_with (go_at_call 9; refine (hcM.out _ hS).mono ?_; rintro e V3 ⟨LM, cm, rfl, pm, PM, hB⟩)
      refine hK.out _ _ (hS.new hB) (fun hSn => ?_)
      clear hK K hS
      have hS := hSn
      clear hSn
      refine callH 13 rfl (by kernel_rfl) (fun K hK => ?_)
      go_simp
      go_wp2_with (go_at_call 12; refine (hcAM.out _ _ _ _ hS pm PM).mono ?_; rintro e V4 ⟨rfl, hB⟩)
      refine hK.out _ _ (hS.new hB) (fun hSn => ?_)
      clear hK K hS
      have hS := hSn
      clear hSn
      refine takeH 14 (v := ?_) rfl (by kernel_rfl) (by kernel_rfl) (by kernel_rfl) (fun _ _ _ h => h) (by rfl) hS ?_ ?_
      rotate_left
      · (intro wz hSw; clear hSw; go_simp; try with_reducible rfl)
      try simp only [Act.put, List.setIfInBounds_toArray, List.set_cons_zero, List.set_cons_succ]
      refine takeH 15 (v := ?_) rfl (by kernel_rfl) (by kernel_rfl) (by kernel_rfl) (fun _ _ _ h => h) (by rfl) hS ?_ ?_
      rotate_left
      · (intro wz hSw; clear hSw; go_simp; try with_reducible rfl)
      try simp only [Act.put, List.setIfInBounds_toArray, List.set_cons_zero, List.set_cons_succ]
      refine takeH 16 (v := ?_) rfl (by kernel_rfl) (by kernel_rfl) (by kernel_rfl) (fun _ _ _ h => h) (by rfl) hS ?_ ?_
      rotate_left
      · (intro wz hSw; clear hSw; go_simp; try with_reducible rfl)
      try simp only [Act.put, List.setIfInBounds_toArray, List.set_cons_zero, List.set_cons_succ]
      refine takeH 17 rfl (by kernel_rfl) (by kernel_rfl) (by kernel_rfl) (fun _ _ _ h => h) (by rfl) hS (load_row22 (.tmp 5) rfl ga rfl ca sa (fun w h => h.ba)) ?_
      try simp only [Act.put, List.setIfInBounds_toArray, List.set_cons_zero, List.set_cons_succ]
      refine takeH 18 rfl (by kernel_rfl) (by kernel_rfl) (by kernel_rfl) (fun _ _ _ h => h) (by rfl) hS (load_row22 (.tmp 6) rfl gb rfl cb sb (fun w h => h.bb)) ?_
      try simp only [Act.put, List.setIfInBounds_toArray, List.set_cons_zero, List.set_cons_succ]
      refine takeH 20 rfl (by kernel_rfl) (by kernel_rfl) (by kernel_rfl) (fun _ _ _ h => h) (by rfl) hS (load_row22 (.tmp 6) rfl gb rfl cb sb (fun w h => h.bb)) ?_
      try simp only [Act.put, List.setIfInBounds_toArray, List.set_cons_zero, List.set_cons_succ]
      refine takeH 21 rfl (by kernel_rfl) (by kernel_rfl) (by kernel_rfl) (fun _ _ _ h => h) (by rfl) hS (load_row22 (.tmp 5) rfl ga rfl ca sa (fun w h => h.ba)) ?_
      try simp only [Act.put, List.setIfInBounds_toArray, List.set_cons_zero, List.set_cons_succ]
      refine callH 19 rfl (by kernel_rfl) (fun K hK => ?_)
      go_simp
      go_wp2_with (go_at_call 12; refine (hcAB.out _ hS).mono ?_; rintro e V5 ⟨rfl, hB⟩)
      refine hK.out _ _ (hS.new hB) (fun hSn => ?_)
      clear hK K hS
      have hS := hSn
      clear hSn
      refine callH 22 rfl (by kernel_rfl) (fun K hK => ?_)
      go_simp
      go_wp2_with (go_at_call 12; refine (hcBA.out _ hS).mono ?_; rintro e V6 ⟨rfl, hB⟩)
      refine hK.out _ _ (hS.new hB) (fun hSn => ?_)
      clear hK K hS
      have hS := hSn
      clear hSn
      refine takeH 23 (v := ?_) rfl (by kernel_rfl) (by kernel_rfl) (by kernel_rfl) (fun _ _ _ h => h) (by rfl) hS ?_ ?_
      rotate_left
      · (intro wz hSw; clear hSw; go_simp; try with_reducible rfl)
      try simp only [Act.put, List.setIfInBounds_toArray, List.set_cons_zero, List.set_cons_succ]
      refine takeH 24 (v := ?_) rfl (by kernel_rfl) (by kernel_rfl) (by kernel_rfl) (fun _ _ _ h => h) (by rfl) hS ?_ ?_
      rotate_left
      · (intro wz hSw; clear hSw; go_simp; try with_reducible rfl)
      try simp only [Act.put, List.setIfInBounds_toArray, List.set_cons_zero, List.set_cons_succ]
      refine takeH 25 (v := ?_) rfl (by kernel_rfl) (by kernel_rfl) (by kernel_rfl) (fun _ _ _ h => h) (by rfl) hS ?_ ?_
      rotate_left
      · (intro wz hSw; clear hSw; go_simp; try with_reducible rfl)
      try simp only [Act.put, List.setIfInBounds_toArray, List.set_cons_zero, List.set_cons_succ]
      refine takeH 26 rfl (by kernel_rfl) (by kernel_rfl) (by kernel_rfl) (fun _ _ _ h => h) (by rfl) hS (load_row22 (.tmp 5) rfl ga rfl ca sa (fun w h => h.ba)) ?_
      try simp only [Act.put, List.setIfInBounds_toArray, List.set_cons_zero, List.set_cons_succ]
      refine takeH 27 rfl (by kernel_rfl) (by kernel_rfl) (by kernel_rfl) (fun _ _ _ h => h) (by rfl) hS (load_row22 (.tmp 6) rfl gb rfl cb sb (fun w h => h.bb)) ?_
      try simp only [Act.put, List.setIfInBounds_toArray, List.set_cons_zero, List.set_cons_succ]
      refine callH 28 rfl (by kernel_rfl) (fun K hK => ?_)
      go_simp
      go_wp2_with (go_at_call 12; refine (hcAB.out _ hS).mono ?_; rintro e V7 ⟨rfl, hB⟩)
      refine hK.out _ _ (hS.new hB) (fun hSn => ?_)
      clear hK K hS
      have hS := hSn
      clear hSn
      refine takeH 29 (v := ?_) rfl (by kernel_rfl) (by kernel_rfl) (by kernel_rfl) (fun _ _ _ h => h) (by rfl) hS ?_ ?_
      rotate_left
      · (intro wz hSw; clear hSw; go_simp; try with_reducible rfl)
      try simp only [Act.put, List.setIfInBounds_toArray, List.set_cons_zero, List.set_cons_succ]
      refine skipH 30 rfl (by kernel_rfl) (by kernel_rfl) (by kernel_rfl) (fun _ _ _ h => h) (by rfl) hS ?_
      try simp only [Act.put, List.setIfInBounds_toArray, List.set_cons_zero, List.set_cons_succ]
      refine skipH 32 rfl (by kernel_rfl) (by kernel_rfl) (by kernel_rfl) (fun _ _ _ h => h) (by rfl) hS ?_
      try simp only [Act.put, List.setIfInBounds_toArray, List.set_cons_zero, List.set_cons_succ]
      refine skipH 31 rfl (by kernel_rfl) (by kernel_rfl) (by kernel_rfl) (fun _ _ _ h => h) (by rfl) hS ?_
      try simp only [Act.put, List.setIfInBounds_toArray, List.set_cons_zero, List.set_cons_succ]
      refine skipH 33 rfl (by kernel_rfl) (by kernel_rfl) (by kernel_rfl) (fun _ _ _ h => h) (by rfl) hS ?_
      try simp only [Act.put, List.setIfInBounds_toArray, List.set_cons_zero, List.set_cons_succ]
      refine skipH 34 rfl (by kernel_rfl) (by kernel_rfl) (by kernel_rfl) (fun _ _ _ h => h) (by rfl) hS ?_
      try simp only [Act.put, List.setIfInBounds_toArray, List.set_cons_zero, List.set_cons_succ]
      refine takeH 35 (v := ?_) rfl (by kernel_rfl) (by kernel_rfl) (by kernel_rfl) (fun _ _ _ h => h) (by rfl) hS ?_ ?_
      rotate_left
      · (intro wz hSw; clear hSw; go_simp; try with_reducible rfl)
      try simp only [Act.put, List.setIfInBounds_toArray, List.set_cons_zero, List.set_cons_succ]
      refine takeH 36 (v := ?_) rfl (by kernel_rfl) (by kernel_rfl) (by kernel_rfl) (fun _ _ _ h => h) (by rfl) hS ?_ ?_
      rotate_left
      · (intro wz hSw; clear hSw; go_simp; try with_reducible rfl)
      try simp only [Act.put, List.setIfInBounds_toArray, List.set_cons_zero, List.set_cons_succ]
      refine wpAnyH_done (by kernel_rfl) ?_ _
      go_wp2_with fail
      go_meet
      exact ⟨rfl, hS⟩
    · have hcSC := Lib.hid (hcSB.out rfl)
      clear hcSB
      refine takeH 0 rfl (by kernel_rfl) (by kernel_rfl) (by kernel_rfl) (fun _ _ _ h => h) (by rfl) hS (load_row22 (.tmp 5) rfl ga rfl ca sa (fun w h => h.ba)) ?_
      try simp only [Act.put, List.setIfInBounds_toArray, List.set_cons_zero, List.set_cons_succ]
      refine callH 1 rfl (by kernel_rfl) (fun K hK => ?_)
      go_simp
      go_wp2_with (go_at_call 11; refine (hcL.out _ hS).mono ?_; rintro e V8 ⟨rfl, hB⟩)
      refine hK.out _ _ (hS.new hB) (fun hSn => ?_)
      clear hK K hS
      have hS := hSn
      clear hSn
      refine takeH 2 (v := ?_) rfl (by kernel_rfl) (by kernel_rfl) (by kernel_rfl) (fun _ _ _ h => h) (by rfl) hS ?_ ?_
      rotate_left
      · (intro wz hSw; clear hSw; go_simp; try with_reducible rfl)
      try simp only [Act.put, List.setIfInBounds_toArray, List.set_cons_zero, List.set_cons_succ]
      refine takeH 3 (v := ?_) rfl (by kernel_rfl) (by kernel_rfl) (by kernel_rfl) (fun _ _ _ h => h) (by rfl) hS ?_ ?_
      rotate_left
      · (intro wz hSw; clear hSw; go_simp; try with_reducible rfl)
      try simp only [Act.put, List.setIfInBounds_toArray, List.set_cons_zero, List.set_cons_succ]
      refine takeH 4 rfl (by kernel_rfl) (by kernel_rfl) (by kernel_rfl) (fun _ _ _ h => h) (by rfl) hS (load_row22 (.tmp 7) rfl gc rfl cc sc (fun w h => h.bc)) ?_
      try simp only [Act.put, List.setIfInBounds_toArray, List.set_cons_zero, List.set_cons_succ]
      refine takeH 5 rfl (by kernel_rfl) (by kernel_rfl) (by kernel_rfl) (fun _ _ _ h => h) (by rfl) hS (load_row22 (.tmp 5) rfl ga rfl ca sa (fun w h => h.ba)) ?_
      try simp only [Act.put, List.setIfInBounds_toArray, List.set_cons_zero, List.set_cons_succ]
      refine callH 6 rfl (by kernel_rfl) (fun K hK => ?_)
      go_simp
      go_wp2_with (go_at_call 12; refine (hcCA.out _ hS).mono ?_; rintro e V9 ⟨rfl, hB⟩)
      refine hK.out _ _ (hS.new hB) (fun hSn => ?_)
      clear hK K hS
      have hS := hSn
      clear hSn
      refine takeH 7 (v := ?_) rfl (by kernel_rfl) (by kernel_rfl) (by kernel_rfl) (fun _ _ _ h => h) (by rfl) hS ?_ ?_
      rotate_left
      · (intro wz hSw; clear hSw; go_simp; try with_reducible rfl)
      try simp only [Act.put, List.setIfInBounds_toArray, List.set_cons_zero, List.set_cons_succ]
      refine takeH 8 (v := ?_) rfl (by kernel_rfl) (by kernel_rfl) (by kernel_rfl) (fun _ _ _ h => h) (by rfl) hS ?_ ?_
      rotate_left
      · (intro wz hSw; clear hSw; go_simp; try with_reducible rfl)
      try simp only [Act.put, List.setIfInBounds_toArray, List.set_cons_zero, List.set_cons_succ]
      refine takeH 9 (v := ?_) rfl (by kernel_rfl) (by kernel_rfl) (by kernel_rfl) (fun _ _ _ h => h) (by rfl) hS ?_ ?_
      rotate_left
      · (intro wz hSw; clear hSw; go_simp; try with_reducible rfl)
      try simp only [Act.put, List.setIfInBounds_toArray, List.set_cons_zero, List.set_cons_succ]
      refine takeH 11 (v := ?_) rfl (by kernel_rfl) (by kernel_rfl) (by kernel_rfl) (fun _ _ _ h => h) (by rfl) hS ?_ ?_
      rotate_left
      · (intro wz hSw; clear hSw; go_simp; try with_reducible rfl)
      try simp only [Act.put, List.setIfInBounds_toArray, List.set_cons_zero, List.set_cons_succ]
      refine takeH 10 rfl (by kernel_rfl) (by kernel_rfl) (by kernel_rfl) (fun _ _ _ h => h) (by rfl) hS (load_row22 (.tmp 5) rfl ga rfl ca sa (fun w h => h.ba)) ?_
      try simp only [Act.put, List.setIfInBounds_toArray, List.set_cons_zero, List.set_cons_succ]
      refine callH 12 rfl (by kernel_rfl) (fun K hK => ?_)
      go_simp
      go_wp2_with (go_at_call 9; refine (hcM.out _ hS).mono ?_; rintro e V10 ⟨LM, cm, rfl, pm, PM, hB⟩)
      refine hK.out _ _ (hS.new hB) (fun hSn => ?_)
      clear hK K hS
      have hS := hSn
      clear hSn
      refine callH 13 rfl (by kernel_rfl) (fun K hK => ?_)
      go_simp
      go_wp2_with (go_at_call 12; refine (hcAM.out _ _ _ _ hS pm PM).mono ?_; rintro e V11 ⟨rfl, hB⟩)
      refine hK.out _ _ (hS.new hB) (fun hSn => ?_)
      clear hK K hS
      have hS := hSn
      clear hSn
      refine takeH 14 (v := ?_) rfl (by kernel_rfl) (by kernel_rfl) (by kernel_rfl) (fun _ _ _ h => h) (by rfl) hS ?_ ?_
      rotate_left
      · (intro wz hSw; clear hSw; go_simp; try with_reducible rfl)
      try simp only [Act.put, List.setIfInBounds_toArray, List.set_cons_zero, List.set_cons_succ]
      refine takeH 15 (v := ?_) rfl (by kernel_rfl) (by kernel_rfl) (by kernel_rfl) (fun _ _ _ h => h) (by rfl) hS ?_ ?_
      rotate_left
      · (intro wz hSw; clear hSw; go_simp; try with_reducible rfl)
      try simp only [Act.put, List.setIfInBounds_toArray, List.set_cons_zero, List.set_cons_succ]
      refine takeH 16 (v := ?_) rfl (by kernel_rfl) (by kernel_rfl) (by kernel_rfl) (fun _ _ _ h => h) (by rfl) hS ?_ ?_
      rotate_left
      · (intro wz hSw; clear hSw; go_simp; try with_reducible rfl)
      try simp only [Act.put, List.setIfInBounds_toArray, List.set_cons_zero, List.set_cons_succ]
      refine takeH 17 rfl (by kernel_rfl) (by kernel_rfl) (by kernel_rfl) (fun _ _ _ h => h) (by rfl) hS (load_row22 (.tmp 5) rfl ga rfl ca sa (fun w h => h.ba)) ?_
      try simp only [Act.put, List.setIfInBounds_toArray, List.set_cons_zero, List.set_cons_succ]
      refine takeH 18 rfl (by kernel_rfl) (by kernel_rfl) (by kernel_rfl) (fun _ _ _ h => h) (by rfl) hS (load_row22 (.tmp 6) rfl gb rfl cb sb (fun w h => h.bb)) ?_
      try simp only [Act.put, List.setIfInBounds_toArray, List.set_cons_zero, List.set_cons_succ]
      refine takeH 20 rfl (by kernel_rfl) (by kernel_rfl) (by kernel_rfl) (fun _ _ _ h => h) (by rfl) hS (load_row22 (.tmp 6) rfl gb rfl cb sb (fun w h => h.bb)) ?_
      try simp only [Act.put, List.setIfInBounds_toArray, List.set_cons_zero, List.set_cons_succ]
      refine takeH 21 rfl (by kernel_rfl) (by kernel_rfl) (by kernel_rfl) (fun _ _ _ h => h) (by rfl) hS (load_row22 (.tmp 5) rfl ga rfl ca sa (fun w h => h.ba)) ?_
      try simp only [Act.put, List.setIfInBounds_toArray, List.set_cons_zero, List.set_cons_succ]
      refine callH 19 rfl (by kernel_rfl) (fun K hK => ?_)
      go_simp
      go_wp2_with (go_at_call 12; refine (hcAB.out _ hS).mono ?_; rintro e V12 ⟨rfl, hB⟩)
      refine hK.out _ _ (hS.new hB) (fun hSn => ?_)
      clear hK K hS
      have hS := hSn
      clear hSn
      refine callH 22 rfl (by kernel_rfl) (fun K hK => ?_)
      go_simp
      go_wp2_with (go_at_call 12; refine (hcBA.out _ hS).mono ?_; rintro e V13 ⟨rfl, hB⟩)
      refine hK.out _ _ (hS.new hB) (fun hSn => ?_)
      clear hK K hS
      have hS := hSn
      clear hSn
      refine takeH 23 (v := ?_) rfl (by kernel_rfl) (by kernel_rfl) (by kernel_rfl) (fun _ _ _ h => h) (by rfl) hS ?_ ?_
      rotate_left
      · (intro wz hSw; clear hSw; go_simp; try with_reducible rfl)
      try simp only [Act.put, List.setIfInBounds_toArray, List.set_cons_zero, List.set_cons_succ]
      refine takeH 24 (v := ?_) rfl (by kernel_rfl) (by kernel_rfl) (by kernel_rfl) (fun _ _ _ h => h) (by rfl) hS ?_ ?_
      rotate_left
      · (intro wz hSw; clear hSw; go_simp; try with_reducible rfl)
      try simp only [Act.put, List.setIfInBounds_toArray, List.set_cons_zero, List.set_cons_succ]
      refine takeH 25 (v := ?_) rfl (by kernel_rfl) (by kernel_rfl) (by kernel_rfl) (fun _ _ _ h => h) (by rfl) hS ?_ ?_
      rotate_left
      · (intro wz hSw; clear hSw; go_simp; try with_reducible rfl)
      try simp only [Act.put, List.setIfInBounds_toArray, List.set_cons_zero, List.set_cons_succ]
      refine takeH 26 rfl (by kernel_rfl) (by kernel_rfl) (by kernel_rfl) (fun _ _ _ h => h) (by rfl) hS (load_row22 (.tmp 5) rfl ga rfl ca sa (fun w h => h.ba)) ?_
      try simp only [Act.put, List.setIfInBounds_toArray, List.set_cons_zero, List.set_cons_succ]
      refine takeH 27 rfl (by kernel_rfl) (by kernel_rfl) (by kernel_rfl) (fun _ _ _ h => h) (by rfl) hS (load_row22 (.tmp 6) rfl gb rfl cb sb (fun w h => h.bb)) ?_
      try simp only [Act.put, List.setIfInBounds_toArray, List.set_cons_zero, List.set_cons_succ]
      refine callH 28 rfl (by kernel_rfl) (fun K hK => ?_)
      go_simp
      go_wp2_with (go_at_call 12; refine (hcAB.out _ hS).mono ?_; rintro e V14 ⟨rfl, hB⟩)
      refine hK.out _ _ (hS.new hB) (fun hSn => ?_)
      clear hK K hS
      have hS := hSn
      clear hSn
      refine takeH 29 (v := ?_) rfl (by kernel_rfl) (by kernel_rfl) (by kernel_rfl) (fun _ _ _ h => h) (by rfl) hS ?_ ?_
      rotate_left
      · (intro wz hSw; clear hSw; go_simp; try with_reducible rfl)
      try simp only [Act.put, List.setIfInBounds_toArray, List.set_cons_zero, List.set_cons_succ]
      refine takeH 30 rfl (by kernel_rfl) (by kernel_rfl) (by kernel_rfl) (fun _ _ _ h => h) (by rfl) hS (load_row22 (.tmp 5) rfl ga rfl ca sa (fun w h => h.ba)) ?_
      try simp only [Act.put, List.setIfInBounds_toArray, List.set_cons_zero, List.set_cons_succ]
      refine takeH 32 rfl (by kernel_rfl) (by kernel_rfl) (by kernel_rfl) (fun _ _ _ h => h) (by rfl) hS (load_row22 (.tmp 6) rfl gb rfl cb sb (fun w h => h.bb)) ?_
      try simp only [Act.put, List.setIfInBounds_toArray, List.set_cons_zero, List.set_cons_succ]
      refine callH 31 rfl (by kernel_rfl) (fun K hK => ?_)
      go_simp
      go_wp2_with (go_at_call 13; refine (hcSA.out _ hS).mono ?_; rintro e V15 ⟨rfl, hB⟩)
      refine hK.out _ _ (hS.new hB) (fun hSn => ?_)
      clear hK K hS
      have hS := hSn
      clear hSn
      refine callH 33 rfl (by kernel_rfl) (fun K hK => ?_)
      go_simp
      go_wp2_with (go_at_call 13; refine (hcSC.out _ hS).mono ?_; rintro e V16 ⟨rfl, hB⟩)
      refine hK.out _ _ (hS.new hB) (fun hSn => ?_)
      clear hK K hS
      have hS := hSn
      clear hSn
      refine takeH 34 (v := ?_) rfl (by kernel_rfl) (by kernel_rfl) (by kernel_rfl) (fun _ _ _ h => h) (by rfl) hS ?_ ?_
      rotate_left
      · (intro wz hSw; clear hSw; go_simp; try with_reducible rfl)
      try simp only [Act.put, List.setIfInBounds_toArray, List.set_cons_zero, List.set_cons_succ]
      refine takeH 35 (v := ?_) rfl (by kernel_rfl) (by kernel_rfl) (by kernel_rfl) (fun _ _ _ h => h) (by rfl) hS ?_ ?_
      rotate_left
      · (intro wz hSw; clear hSw; go_simp; try with_reducible rfl)
      try simp only [Act.put, List.setIfInBounds_toArray, List.set_cons_zero, List.set_cons_succ]
      refine takeH 36 (v := ?_) rfl (by kernel_rfl) (by kernel_rfl) (by kernel_rfl) (fun _ _ _ h => h) (by rfl) hS ?_ ?_
      rotate_left
      · (intro wz hSw; clear hSw; go_simp; try with_reducible rfl)
      try simp only [Act.put, List.setIfInBounds_toArray, List.set_cons_zero, List.set_cons_succ]
      refine wpAnyH_done (by kernel_rfl) ?_ _
      go_wp2_with fail
      go_meet
      exact ⟨rfl, hS⟩
  case rest =>
  obtain ⟨rfl, hS⟩ := hcut
  obtain ⟨W8, hW8⟩ : ∃ W, W = wc := ⟨_, rfl⟩
  rw [← hW8] at hS ⊢
  clear hW8 hSd hcL hcCA hcAB hcBA hcSB hq hq'
  have hz : LA.sz = LA.ins.length + LA.gh.length + LA.va.length + LA.ar.length + 1 + LA.req.sz + szI LA.inits + szPr LA.procs + szS LA.work + szS LA.recov + LA.inv.sz := rfl
  have i1 : (LA.ins.length : Int) ≤ 10000 := by omega
  have i2 : (LA.gh.length : Int) ≤ 10000 := by omega
  have i3 : (LA.va.length : Int) ≤ 10000 := by omega
  have i4 : (LA.ar.length : Int) ≤ 10000 := by omega
  have i5 : (LA.req.sz : Int) ≤ 10000 := by omega
  have i6 : (LA.inv.sz : Int) ≤ 10000 := by omega
  have i7 : (szS LA.work : Int) ≤ 10000 := by omega
  have i8 : (szS LA.recov : Int) ≤ 10000 := by omega
  have hS' := Lib.hid hS
  have hcR : ∀ W, CS w ga gb gc LA LB LC ca cb cc A1 n1 c1 bk W → Calls Try.prog 14 #[aggX LA.req] W fun x w' => x = .returned (.int .i64 (LA.req.sz : Nat)) ∧ Below W.heap.size W w' := fun W h => sizeE LA.req W h.pa.own.req.ok _ (by rw [if_pos (by omega)])
  have hcI : ∀ W, CS w ga gb gc LA LB LC ca cb cc A1 n1 c1 bk W → Calls Try.prog 14 #[aggX LA.inv] W fun x w' => x = .returned (.int .i64 (LA.inv.sz : Nat)) ∧ Below W.heap.size W w' := fun W h => sizeE LA.inv W h.pa.own.inv.ok _ (by rw [if_pos (by omega)])
  have hcW : ∀ W, CS w ga gb gc LA LB LC ca cb cc A1 n1 c1 bk W → Calls Try.prog 15 #[.slice LA.lw.A LA.work.length LA.lw.c] W fun x w' => x = .returned (.int .i64 (szS LA.work : Nat)) ∧ Below W.heap.size W w' := fun W h => sizeS LA.work LA.lw (thin_of (by omega)) W h.pa.own.work.ok _ (by rw [if_pos (by omega)])
  have hcV : ∀ W, CS w ga gb gc LA LB LC ca cb cc A1 n1 c1 bk W → Calls Try.prog 15 #[.slice LA.lr.A LA.recov.length LA.lr.c] W fun x w' => x = .returned (.int .i64 (szS LA.recov : Nat)) ∧ Below W.heap.size W w' := fun W h => sizeS LA.recov LA.lr (thin_of (by omega)) W h.pa.own.recov.ok _ (by rw [if_pos (by omega)])
  replace hcR := Lib.hid hcR
  replace hcI := Lib.hid hcI
  replace hcW := Lib.hid hcW
  replace hcV := Lib.hid hcV
  replace hz := Lib.hid hz
  clear hS
  go_upto_region 7 with (fail)
  have hS := hS'.out.new ((Below.refl _ W8).drew)
  clear hS'
  refine wp_region_held (S := CS w ga gb gc LA LB LC ca cb cc A1 n1 c1 bk) (by kernel_rfl) ?_
  change wpAnyH _ _ _ _ _ _ _ _ (World.drew _)
  refine takeH 0 (v := ?_) rfl (by kernel_rfl) (by kernel_rfl) (by kernel_rfl) (fun _ _ _ h => h) (by rfl) hS ?_ ?_
  rotate_left
  · (intro wz hSw; clear hSw; go_simp; try with_reducible rfl)
  try simp only [Act.put, List.setIfInBounds_toArray, List.set_cons_zero, List.set_cons_succ]
  refine takeH 3 (v := ?_) rfl (by kernel_rfl) (by kernel_rfl) (by kernel_rfl) (fun _ _ _ h => h) (by rfl) hS ?_ ?_
  rotate_left
  · (intro wz hSw; clear hSw; go_simp; try with_reducible rfl)
  try simp only [Act.put, List.setIfInBounds_toArray, List.set_cons_zero, List.set_cons_succ]
  refine takeH 7 (v := ?_) rfl (by kernel_rfl) (by kernel_rfl) (by kernel_rfl) (fun _ _ _ h => h) (by rfl) hS ?_ ?_
  rotate_left
  · (intro wz hSw; clear hSw; go_simp; try with_reducible rfl)
  try simp only [Act.put, List.setIfInBounds_toArray, List.set_cons_zero, List.set_cons_succ]
  refine takeH 11 (v := ?_) rfl (by kernel_rfl) (by kernel_rfl) (by kernel_rfl) (fun _ _ _ h => h) (by rfl) hS ?_ ?_
  rotate_left
  · (intro wz hSw; clear hSw; go_simp; try with_reducible rfl)
  try simp only [Act.put, List.setIfInBounds_toArray, List.set_cons_zero, List.set_cons_succ]
  refine takeH 16 (v := ?_) rfl (by kernel_rfl) (by kernel_rfl) (by kernel_rfl) (fun _ _ _ h => h) (by rfl) hS ?_ ?_
  rotate_left
  · (intro wz hSw; clear hSw; go_simp; try with_reducible rfl)
  try simp only [Act.put, List.setIfInBounds_toArray, List.set_cons_zero, List.set_cons_succ]
  refine takeH 20 (v := ?_) rfl (by kernel_rfl) (by kernel_rfl) (by kernel_rfl) (fun _ _ _ h => h) (by rfl) hS ?_ ?_
  rotate_left
  · (intro wz hSw; clear hSw; go_simp; try with_reducible rfl)
  try simp only [Act.put, List.setIfInBounds_toArray, List.set_cons_zero, List.set_cons_succ]
  refine takeH 24 (v := ?_) rfl (by kernel_rfl) (by kernel_rfl) (by kernel_rfl) (fun _ _ _ h => h) (by rfl) hS ?_ ?_
  rotate_left
  · (intro wz hSw; clear hSw; go_simp; try with_reducible rfl)
  try simp only [Act.put, List.setIfInBounds_toArray, List.set_cons_zero, List.set_cons_succ]
  refine takeH 28 (v := ?_) rfl (by kernel_rfl) (by kernel_rfl) (by kernel_rfl) (fun _ _ _ h => h) (by rfl) hS ?_ ?_
  rotate_left
  · (intro wz hSw; clear hSw; go_simp; try with_reducible rfl)
  try simp only [Act.put, List.setIfInBounds_toArray, List.set_cons_zero, List.set_cons_succ]
  refine takeH 1 (v := .slice LA.li.A LA.ins.length LA.li.c) rfl (by kernel_rfl) (by kernel_rfl) (by kernel_rfl) (fun _ _ _ h => h) (by rfl) hS ?_ ?_
  · (intro wz hSw; have z := hSw.ba.cell 2; rw [k2.out] at z; clear hSw; go_simp)
  try simp only [Act.put, List.setIfInBounds_toArray, List.set_cons_zero, List.set_cons_succ]
  refine takeH 2 (v := ?_) rfl (by kernel_rfl) (by kernel_rfl) (by kernel_rfl) (fun _ _ _ h => h) (by rfl) hS ?_ ?_
  rotate_left
  · (intro wz hSw; clear hSw; go_simp; try with_reducible rfl)
  try simp only [Act.put, List.setIfInBounds_toArray, List.set_cons_zero, List.set_cons_succ]
  refine takeH 4 (v := .slice LA.lg.A LA.gh.length LA.lg.c) rfl (by kernel_rfl) (by kernel_rfl) (by kernel_rfl) (fun _ _ _ h => h) (by rfl) hS ?_ ?_
  · (intro wz hSw; have z := hSw.ba.cell 3; rw [k3.out] at z; clear hSw; go_simp)
  try simp only [Act.put, List.setIfInBounds_toArray, List.set_cons_zero, List.set_cons_succ]
  refine takeH 5 (v := ?_) rfl (by kernel_rfl) (by kernel_rfl) (by kernel_rfl) (fun _ _ _ h => h) (by rfl) hS ?_ ?_
  rotate_left
  · (intro wz hSw; clear hSw; go_simp; try with_reducible rfl)
  try simp only [Act.put, List.setIfInBounds_toArray, List.set_cons_zero, List.set_cons_succ]
  refine takeH 6 (v := ?_) rfl (by kernel_rfl) (by kernel_rfl) (by kernel_rfl) (fun _ _ _ h => h) (by rfl) hS ?_ ?_
  rotate_left
  · (intro wz hSw; clear hSw; go_simp; try with_reducible rfl)
  try simp only [Act.put, List.setIfInBounds_toArray, List.set_cons_zero, List.set_cons_succ]
  refine takeH 8 (v := .slice LA.lv.A LA.va.length LA.lv.c) rfl (by kernel_rfl) (by kernel_rfl) (by kernel_rfl) (fun _ _ _ h => h) (by rfl) hS ?_ ?_
  · (intro wz hSw; have z := hSw.ba.cell 4; rw [k4.out] at z; clear hSw; go_simp)
  try simp only [Act.put, List.setIfInBounds_toArray, List.set_cons_zero, List.set_cons_succ]
  refine takeH 9 (v := ?_) rfl (by kernel_rfl) (by kernel_rfl) (by kernel_rfl) (fun _ _ _ h => h) (by rfl) hS ?_ ?_
  rotate_left
  · (intro wz hSw; clear hSw; go_simp; try with_reducible rfl)
  try simp only [Act.put, List.setIfInBounds_toArray, List.set_cons_zero, List.set_cons_succ]
  refine takeH 10 (v := ?_) rfl (by kernel_rfl) (by kernel_rfl) (by kernel_rfl) (fun _ _ _ h => h) (by rfl) hS ?_ ?_
  rotate_left
  · (intro wz hSw; clear hSw; go_simp; try with_reducible rfl)
  try simp only [Act.put, List.setIfInBounds_toArray, List.set_cons_zero, List.set_cons_succ]
  refine takeH 12 (v := .slice LA.la.A LA.ar.length LA.la.c) rfl (by kernel_rfl) (by kernel_rfl) (by kernel_rfl) (fun _ _ _ h => h) (by rfl) hS ?_ ?_
  · (intro wz hSw; have z := hSw.ba.cell 5; rw [k5.out] at z; clear hSw; go_simp)
  try simp only [Act.put, List.setIfInBounds_toArray, List.set_cons_zero, List.set_cons_succ]
  refine takeH 13 (v := ?_) rfl (by kernel_rfl) (by kernel_rfl) (by kernel_rfl) (fun _ _ _ h => h) (by rfl) hS ?_ ?_
  rotate_left
  · (intro wz hSw; clear hSw; go_simp; try with_reducible rfl)
  try simp only [Act.put, List.setIfInBounds_toArray, List.set_cons_zero, List.set_cons_succ]
  refine takeH 14 (v := ?_) rfl (by kernel_rfl) (by kernel_rfl) (by kernel_rfl) (fun _ _ _ h => h) (by rfl) hS ?_ ?_
  rotate_left
  · (intro wz hSw; clear hSw; go_simp; try with_reducible rfl)
  try simp only [Act.put, List.setIfInBounds_toArray, List.set_cons_zero, List.set_cons_succ]
  refine takeH 15 (v := ?_) rfl (by kernel_rfl) (by kernel_rfl) (by kernel_rfl) (fun _ _ _ h => h) (by rfl) hS ?_ ?_
  rotate_left
  · (intro wz hSw; clear hSw; go_simp; try with_reducible rfl)
  try simp only [Act.put, List.setIfInBounds_toArray, List.set_cons_zero, List.set_cons_succ]
  refine takeH 17 rfl (by kernel_rfl) (by kernel_rfl) (by kernel_rfl) (fun _ _ _ h => h) (by rfl) hS (load_expr (.tmp 74) rfl ga 6 rfl LA.req (fun w h => cs_req h.pa h.ba)) ?_
  try simp only [Act.put, List.setIfInBounds_toArray, List.set_cons_zero, List.set_cons_succ]
  refine takeH 21 rfl (by kernel_rfl) (by kernel_rfl) (by kernel_rfl) (fun _ _ _ h => h) (by rfl) hS (load_expr (.tmp 78) rfl ga 16 rfl LA.inv (fun w h => cs_inv h.pa h.ba)) ?_
  try simp only [Act.put, List.setIfInBounds_toArray, List.set_cons_zero, List.set_cons_succ]
  refine takeH 25 (v := .slice LA.lw.A LA.work.length LA.lw.c) rfl (by kernel_rfl) (by kernel_rfl) (by kernel_rfl) (fun _ _ _ h => h) (by rfl) hS ?_ ?_
  · (intro wz hSw; have z := hSw.ba.cell 14; rw [k14.out] at z; clear hSw; go_simp)
  try simp only [Act.put, List.setIfInBounds_toArray, List.set_cons_zero, List.set_cons_succ]
  refine takeH 29 (v := .slice LA.lr.A LA.recov.length LA.lr.c) rfl (by kernel_rfl) (by kernel_rfl) (by kernel_rfl) (fun _ _ _ h => h) (by rfl) hS ?_ ?_
  · (intro wz hSw; have z := hSw.ba.cell 15; rw [k15.out] at z; clear hSw; go_simp)
  try simp only [Act.put, List.setIfInBounds_toArray, List.set_cons_zero, List.set_cons_succ]
  refine callH 18 rfl (by kernel_rfl) (fun K hK => ?_)
  go_simp
  go_wp2_with (go_at_call 14; refine (hcR.out _ hS).mono ?_; rintro e V21 ⟨rfl, hB⟩)
  refine hK.out _ _ (hS.new hB) (fun hSn => ?_)
  clear hK K hS
  have hS := hSn
  clear hSn
  refine takeH 19 (v := ?_) rfl (by kernel_rfl) (by kernel_rfl) (by kernel_rfl) (fun _ _ _ h => h) (by rfl) hS ?_ ?_
  rotate_left
  · (intro wz hSw; clear hSw; go_simp; try with_reducible rfl)
  try simp only [Act.put, List.setIfInBounds_toArray, List.set_cons_zero, List.set_cons_succ]
  refine callH 22 rfl (by kernel_rfl) (fun K hK => ?_)
  go_simp
  go_wp2_with (go_at_call 14; refine (hcI.out _ hS).mono ?_; rintro e V22 ⟨rfl, hB⟩)
  refine hK.out _ _ (hS.new hB) (fun hSn => ?_)
  clear hK K hS
  have hS := hSn
  clear hSn
  refine takeH 23 (v := ?_) rfl (by kernel_rfl) (by kernel_rfl) (by kernel_rfl) (fun _ _ _ h => h) (by rfl) hS ?_ ?_
  rotate_left
  · (intro wz hSw; clear hSw; go_simp; try with_reducible rfl)
  try simp only [Act.put, List.setIfInBounds_toArray, List.set_cons_zero, List.set_cons_succ]
  refine callH 26 rfl (by kernel_rfl) (fun K hK => ?_)
  go_simp
  go_wp2_with (go_at_call 15; refine (hcW.out _ hS).mono ?_; rintro e V23 ⟨rfl, hB⟩)
  refine hK.out _ _ (hS.new hB) (fun hSn => ?_)
  clear hK K hS
  have hS := hSn
  clear hSn
  refine takeH 27 (v := ?_) rfl (by kernel_rfl) (by kernel_rfl) (by kernel_rfl) (fun _ _ _ h => h) (by rfl) hS ?_ ?_
  rotate_left
  · (intro wz hSw; clear hSw; go_simp; try with_reducible rfl)
  try simp only [Act.put, List.setIfInBounds_toArray, List.set_cons_zero, List.set_cons_succ]
  refine callH 30 rfl (by kernel_rfl) (fun K hK => ?_)
  go_simp
  go_wp2_with (go_at_call 15; refine (hcV.out _ hS).mono ?_; rintro e V24 ⟨rfl, hB⟩)
  refine hK.out _ _ (hS.new hB) (fun hSn => ?_)
  clear hK K hS
  have hS := hSn
  clear hSn
  refine takeH 31 (v := ?_) rfl (by kernel_rfl) (by kernel_rfl) (by kernel_rfl) (fun _ _ _ h => h) (by rfl) hS ?_ ?_
  rotate_left
  · (intro wz hSw; clear hSw; go_simp; try with_reducible rfl)
  try simp only [Act.put, List.setIfInBounds_toArray, List.set_cons_zero, List.set_cons_succ]
  refine takeH 32 (v := ?_) rfl (by kernel_rfl) (by kernel_rfl) (by kernel_rfl) (fun _ _ _ h => h) (by rfl) hS ?_ ?_
  rotate_left
  · (intro wz hSw; clear hSw; go_simp; try with_reducible rfl)
  try simp only [Act.put, List.setIfInBounds_toArray, List.set_cons_zero, List.set_cons_succ]
  refine wpAnyH_done (by kernel_rfl) ?_ _
  clear hcR hcI hcW hcV
  obtain ⟨N0, hN0⟩ : ∃ N0 : Nat, N0 = LA.ins.length + LA.gh.length + LA.va.length + LA.ar.length + 1 + LA.req.sz + LA.inv.sz + szS LA.work + szS LA.recov := ⟨_, rfl⟩
  have e0 : (LA.ins.length : Int) + LA.gh.length + LA.va.length + LA.ar.length + 1 + LA.req.sz + LA.inv.sz + szS LA.work + szS LA.recov = (N0 : Int) := by omega
  have hN1 : N0 ≤ 10000 := by have := hz.out; omega
  rename World => W9
  replace hN0 := Lib.hid hN0
  replace e0 := Lib.hid e0
  have cP := hS.ba.cell 12
  rw [k12.out] at cP
  obtain ⟨nA, hnA⟩ : ∃ x, LA.ln.A = x := ⟨_, rfl⟩
  obtain ⟨nc, hnc⟩ : ∃ x, LA.ln.c = x := ⟨_, rfl⟩
  rw [hnA, hnc] at cP
  obtain ⟨ni, hni⟩ : ∃ n, n = LA.inits.length := ⟨_, rfl⟩
  rw [← hni] at cP
  have hnib : ni ≤ 10000 := by have := szI_len LA.inits; have := hz.out; omega
  have hgl := hS.ba.lt
  replace hni := Lib.hid hni
  replace hnA := Lib.hid hnA
  replace hnc := Lib.hid hnc
  have hS' := Lib.hid hS
  clear hS
  go_upto_region 8 with (fail)
  rw [i64_id (x := (LA.ins.length : Int) + LA.gh.length) (by omega) (by omega), i64_id (x := (LA.ins.length : Int) + LA.gh.length + LA.va.length) (by omega) (by omega), i64_id (x := (LA.ins.length : Int) + LA.gh.length + LA.va.length + LA.ar.length) (by omega) (by omega), i64_id (x := (LA.ins.length : Int) + LA.gh.length + LA.va.length + LA.ar.length + 1) (by omega) (by omega), i64_id (x := (LA.ins.length : Int) + LA.gh.length + LA.va.length + LA.ar.length + 1 + LA.req.sz) (by omega) (by omega), i64_id (x := (LA.ins.length : Int) + LA.gh.length + LA.va.length + LA.ar.length + 1 + LA.req.sz + LA.inv.sz) (by omega) (by omega), i64_id (x := (LA.ins.length : Int) + LA.gh.length + LA.va.length + LA.ar.length + 1 + LA.req.sz + LA.inv.sz + szS LA.work) (by omega) (by omega), i64_id (x := (LA.ins.length : Int) + LA.gh.length + LA.va.length + LA.ar.length + 1 + LA.req.sz + LA.inv.sz + szS LA.work + szS LA.recov) (by omega) (by omega)]
  rw [e0.out]
  clear i1 i2 i3 i4 i5 i6 i7 i8
  go_wp2_with fail
  clear cP hgl
  go_loopw [8, 93] (fun v8 v93 wr => ∃ k : Nat, v93 = .int .i64 k ∧ v8 = .int .i64 (N0 + szI (LA.inits.take k) : Nat) ∧ k ≤ ni ∧ Below W9.heap.size W9 wr) (fun _ v93 _ => ni - (intOf v93).toNat)
  case atStart => exact ⟨0, rfl, rfl, Nat.zero_le _, Below.refl _ _⟩
  case round =>
    obtain ⟨k, rfl, rfl, hk, hB⟩ := hrel
    have k0 : 0 ≤ (k : Int) := by omega
    have hSr := hS'.out.new hB
    by_cases hlt : k < ni
    · have hx : LA.inits[k]? = some (LA.inits[k]'(by have := hni.out; omega)) := List.getElem?_eq_getElem (by have := hni.out; omega)
      generalize LA.inits[k]'(by have := hni.out; omega) = x at hx
      obtain ⟨ad, hA', _, hxok, hcx⟩ := Lin.ok.at hSr.pa.own.inits.ok hx
      have hA := hnA.out.symm.trans hA'
      subst hA
      have hsx := szI_mem (List.mem_of_getElem? hx)
      have hnext : szI (LA.inits.take (k + 1)) = szI (LA.inits.take k) + (1 + x.val.sz) := by
        obtain ⟨q1, q2⟩ := List.getElem?_eq_some_iff.1 hx
        rw [List.take_succ_eq_append_getElem q1, q2, szI_append]
        simp [szI]
      have hle : szI (LA.inits.take (k + 1)) ≤ szI LA.inits := by
        have h := szI_append (LA.inits.take (k + 1)) (LA.inits.drop (k + 1))
        rw [List.take_append_drop] at h
        omega
      have hcall := fun w2 (hB2 : Below wr.heap.size wr w2) => sizeE x.val w2 (hxok.below hB2) x.val.sz (by rw [if_pos (by have := hz.out; omega)])
      obtain ⟨m, hm⟩ : ∃ m, m = N0 + szI (LA.inits.take k) := ⟨_, rfl⟩
      have hmn : N0 + szI (LA.inits.take (k + 1)) = m + (1 + x.val.sz) := by omega
      have hzz := hz.out
      have hm1 : (m : Int) ≤ 20000 := by omega
      have hx1 : (x.val.sz : Int) ≤ 20000 := by omega
      rw [← hm]
      have hx' := Lib.hid hx
      replace hm := Lib.hid hm
      replace hmn := Lib.hid hmn
      clear hzz hsx hle hnext hx hA' hSr
      obtain ⟨xb, ⟨⟨xk, xo, xv, xw, xn⟩, ⟨xA, xc⟩, xs⟩⟩ := x
      obtain ⟨d0, d1, d2, d3, d4, d5, d6⟩ := CellsAt.c7 hcx
      simp only [aggX, Ex.cells, eT] at d0 d1 d2 d3 d4 d5 d6 hcall
      replace hcall := Lib.hid hcall
      have k1 : (k : Int) < (ni : Int) := by omega
      have hab := cell_lt d0
      have hBx := (Below.refl _ wr).alloc (Nat.le_refl _) (.cells #[.int .i64 xb, .int .u8 xk, .int .u8 xo, .int .u32 xv, .int .i64 xw, .string xn, .slice xA xs.length xc] 44)
      go_wp2_with fail
      refine (hcall.out _ hBx).mono ?_
      rintro e w2 ⟨rfl, hB2⟩
      have hB3 := below_and hBx hB2
      go_wp2_with fail
      go_roundw
      case rel => exact ⟨k + 1, by go_num, by rw [hmn.out]; simp, by omega, below_and hB hB3⟩
      case measure => simp [intOf]; omega
    · obtain rfl : ni = k := by omega
      have hkn : LA.inits.take ni = LA.inits := List.take_of_length_le (by have := hni.out; omega)
      rw [hkn]
      obtain ⟨N1, hN1'⟩ : ∃ n, n = N0 + szI LA.inits := ⟨_, rfl⟩
      rw [← hN1']
      have hzz := hz.out
      have hN0' := hN0.out
      have hN1b : N1 ≤ 10000 := by omega
      have hS := hSr
      rename World => Wv
      have cP := hS.ba.cell 13
      rw [k13.out] at cP
      obtain ⟨pA, hpA⟩ : ∃ x, LA.lpr.A = x := ⟨_, rfl⟩
      obtain ⟨pc', hpc⟩ : ∃ x, LA.lpr.c = x := ⟨_, rfl⟩
      rw [hpA, hpc] at cP
      obtain ⟨np, hnp⟩ : ∃ n, n = LA.procs.length := ⟨_, rfl⟩
      rw [← hnp] at cP
      have hnpb : np ≤ 10000 := by have := szPr_len LA.procs; omega
      have hgl := hS.ba.lt
      replace hnp := Lib.hid hnp
      replace hpA := Lib.hid hpA
      replace hpc := Lib.hid hpc
      replace hN1' := Lib.hid hN1'
      replace hkn := Lib.hid hkn
      have hSv := Lib.hid hS
      clear hS hSr hB hzz hN0'
      go_wp2_with fail
      clear cP hgl
      go_loopw [8, 107] (fun v8 v107 wr => ∃ k : Nat, v107 = .int .i64 k ∧ v8 = .int .i64 (N1 + szPr (LA.procs.take k) : Nat) ∧ k ≤ np ∧ Below Wv.heap.size Wv wr) (fun _ v107 _ => np - (intOf v107).toNat)
      case atStart => exact ⟨0, rfl, rfl, Nat.zero_le _, Below.refl _ _⟩
      case round =>
        obtain ⟨k, rfl, rfl, hk, hB⟩ := hrel
        have k0 : 0 ≤ (k : Int) := by omega
        have hSr := hSv.out.new hB
        by_cases hlt : k < np
        · have hx : LA.procs[k]? = some (LA.procs[k]'(by have := hnp.out; omega)) := List.getElem?_eq_getElem (by have := hnp.out; omega)
          generalize LA.procs[k]'(by have := hnp.out; omega) = x at hx
          obtain ⟨ad, hA', _, hxok, hcx⟩ := Lpr.ok.at hSr.pa.own.procs.ok hx
          have hA := hpA.out.symm.trans hA'
          subst hA
          have hsx := szPr_mem (List.mem_of_getElem? hx)
          have hnext : szPr (LA.procs.take (k + 1)) = szPr (LA.procs.take k) + (1 + x.ps.length + szS x.body) := by
            obtain ⟨q1, q2⟩ := List.getElem?_eq_some_iff.1 hx
            rw [List.take_succ_eq_append_getElem q1, q2, szPr_append]
            simp [szPr]
          have hle : szPr (LA.procs.take (k + 1)) ≤ szPr LA.procs := by
            have h := szPr_append (LA.procs.take (k + 1)) (LA.procs.drop (k + 1))
            rw [List.take_append_drop] at h
            omega
          have hcall := fun w2 (hB2 : Below wr.heap.size wr w2) => sizeS x.body x.lb (thin_of (by have := hz.out; omega)) w2 (hxok.2.all (keeps_below hB2)) (szS x.body) (by rw [if_pos (by have := hz.out; omega)])
          obtain ⟨m, hm⟩ : ∃ m, m = N1 + szPr (LA.procs.take k) := ⟨_, rfl⟩
          have hmn : N1 + szPr (LA.procs.take (k + 1)) = m + (1 + x.ps.length + szS x.body) := by omega
          have hzz := hz.out
          have hm1 : (m : Int) ≤ 20000 := by omega
          have hx1 : (szS x.body : Int) ≤ 20000 := by omega
          have hx2 : (x.ps.length : Int) ≤ 20000 := by omega
          rw [← hm]
          have hx' := Lib.hid hx
          replace hm := Lib.hid hm
          replace hmn := Lib.hid hmn
          clear hzz hsx hle hnext hx hA' hSr
          obtain ⟨xn, ⟨psA, psc⟩, ps, ⟨bA, bc⟩, body⟩ := x
          obtain ⟨d0, d1, d2⟩ := CellsAt.c3 hcx
          dsimp only at d0 d1 d2 hcall hx1 hx2
          have k1 : (k : Int) < (np : Int) := by omega
          have hab := cell_lt d0
          have hBx := (Below.refl _ wr).alloc (Nat.le_refl _) (.cells #[.string xn, .slice psA ps.length psc, .slice bA body.length bc] 46)
          have hbx := Blk.new wr 46 #[.string xn, .slice psA ps.length psc, .slice bA body.length bc]
          have hX : ∀ x : Ext (wr.alloc (.cells #[.string xn, .slice psA ps.length psc, .slice bA body.length bc] 46)), Calls Try.prog 15 #[.slice bA body.length bc] x.w fun e w' => e = .returned (.int .i64 (szS body : Nat)) ∧ Below x.w.heap.size x.w w' := fun x => hcall x.w (hBx.trans (x.below.mono hBx.size))
          have hC1 : ∀ x : Ext (wr.alloc (.cells #[.string xn, .slice psA ps.length psc, .slice bA body.length bc] 46)), x.w.cell? ⟨wr.heap.size, 1, none⟩ = some (.slice psA ps.length psc) := fun x => (hbx.below x.below hbx.lt).cell 1
          have hC2 : ∀ x : Ext (wr.alloc (.cells #[.string xn, .slice psA ps.length psc, .slice bA body.length bc] 46)), x.w.cell? ⟨wr.heap.size, 2, none⟩ = some (.slice bA body.length bc) := fun x => (hbx.below x.below hbx.lt).cell 2
          replace hX := Lib.hid hX
          clear hcall
          go_upto_region 16 with (fail)
          refine wp_region_grown (by kernel_rfl) (by kernel_rfl) (by kernel_rfl) ?_
          repeat (go_big_quiet_step (first | (go_at_call 15; with_reducible exact grown_of (hX.out _))))
          refine wpQuiet_nil ?_
          rintro _ ⟨x, rfl⟩
          have hBf := hBx.trans (x.below.mono hBx.size)
          replace hBf := Lib.hid hBf
          go_wp2_with fail
          go_roundw
          case rel => exact ⟨k + 1, by go_num, by rw [hmn.out]; simp, by omega, below_and hB hBf.out⟩
          case measure => simp [intOf]; omega
        · obtain rfl : np = k := by omega
          have hkp : LA.procs.take np = LA.procs := List.take_of_length_le (by have := hnp.out; omega)
          rw [hkp]
          have hN : N1 + szPr LA.procs = LA.sz := by have := hz.out; have := hN0.out; have := hN1'.out; omega
          rw [hN]
          rename World => Wz
          have hba := hSr.ba
          have hSz := Lib.hid hSr
          have hcy := hcSA.out Wz hSr
          replace hcy := Lib.hid hcy
          replace hN := Lib.hid hN
          replace hkp := Lib.hid hkp
          clear hSr hB hcSA
          go_wp2_with (refine wpList_load_rowW 35 (.tmp 5) rfl (by rfl) ga rfl 35 ca (0, 0) _ hba Try.underlying35 rfl (by rw [sa]; kernel_rfl) ?_; refine Shut.out ?_)
          refine shut_mk ?_
          go_wp2_with fail
          refine hcy.out.mono ?_
          rintro e Wy ⟨rfl, hB⟩
          clear hba
          have hSy := hSz.out.new hB
          have hbc := hSy.bc
          have hov := over_c hSy.pc
          replace hov := Lib.hid hov
          replace hSy := Lib.hid hSy
          clear hB hSz hcy
          go_wp2_with (refine wpList_load_rowW 35 (.tmp 7) rfl (by rfl) gc rfl 35 cc (0, 0) _ hbc Try.underlying35 rfl (by rw [sc]; kernel_rfl) ?_; refine Shut.out ?_)
          refine shut_mk ?_
          go_wp2_with fail
          refine hov.out.mono ?_
          rintro e Wo ⟨rfl, hoG, hO⟩
          have hLC := dC.out
          have hLA := dA.out
          have hwlt : ∀ b ∈ LC.fp, w.heap.size ≤ b := fun b hb => by have := (hLC b hb).1; omega
          have hT : CT w ga gc LA (overG LC) ca cc A1 n1 c1 bk Wo := by
            refine ⟨hSy.out.ba.only hO (fun hm => by have := (hLC ga hm).1; omega), hSy.out.bc.only hO (fun hm => by have := (hLC gc hm).2; omega), hSy.out.pa.only hO (fun b hb hm => by have := (hLC b hm).1; have := hLA b hb; omega), hoG.ok, by rw [hSy.out.pc.cs, overG_cells], ?_, hSy.out.be.trans (hO.below hSy.out.be.size (fun b hb => hwlt b hb))⟩
            have h0 := h1'.out
            have hbw := hSy.out.be.trans (hO.below hSy.out.be.size (fun b hb => hwlt b hb))
            exact h0.below hbw
          have szo : (overG LC).sz ≤ 20000 := Nat.le_trans (overG_sz LC) szc
          have hcM2 : ∀ W, CT w ga gc LA (overG LC) ca cc A1 n1 c1 bk W → Calls Try.prog 9 #[.slice A1 n1 c1] W fun x w' => ∃ (L : Pg Loc) (cl : Array Value), x = .returned (.agg cl) ∧ L.plain = madeM bk ∧ Prg w' W.heap.size L cl ∧ Below W.heap.size W w' := fun W h => made_c h.byt
          have hcAM2 : ∀ W (L : Pg Loc) (cl : Array Value) (b : Nat), CT w ga gc LA (overG LC) ca cc A1 n1 c1 bk W → L.plain = madeM bk → Prg W b L cl → Calls Try.prog 12 #[.agg ca, .agg cl] W fun x w' => x = .returned (.bool true) ∧ Below W.heap.size W w' := fun W L cl b h hl hp => by
            have := same_c h.pa hp sza (by have := made_sz hl; omega)
            rw [same_true (pa.out.trans hl.symm)] at this
            exact this
          have hcOA : ∀ W, CT w ga gc LA (overG LC) ca cc A1 n1 c1 bk W → Calls Try.prog 12 #[.agg cc, .agg ca] W fun x w' => x = .returned (.bool false) ∧ Below W.heap.size W w' := fun W h => by
            have := same_o h.co h.pa.cs h.po h.pa.own.ok szo sza
            rw [overG_differs pa.out] at this
            exact this
          replace hcM2 := Lib.hid hcM2
          replace hcAM2 := Lib.hid hcAM2
          replace hcOA := Lib.hid hcOA
          have hT' := Lib.hid hT
          clear hT hoG hO hLC hLA hwlt hSy hov hbc
          go_upto_region 21 with (fail)
          have hS := hT'.out.new ((Below.refl _ Wo).drew)
          clear hT'
          refine wp_region_held (S := CT w ga gc LA (overG LC) ca cc A1 n1 c1 bk) (by kernel_rfl) ?_
          change wpAnyH _ _ _ _ _ _ _ _ (World.drew _)
          refine takeH 1 (v := ?_) rfl (by kernel_rfl) (by kernel_rfl) (by kernel_rfl) (fun _ _ _ h => h) (by rfl) hS ?_ ?_
          rotate_left
          · (intro wz hSw; clear hSw; go_simp; try with_reducible rfl)
          try simp only [Act.put, List.setIfInBounds_toArray, List.set_cons_zero, List.set_cons_succ]
          refine takeH 0 rfl (by kernel_rfl) (by kernel_rfl) (by kernel_rfl) (fun _ _ _ h => h) (by rfl) hS (load_row22 (.tmp 5) rfl ga rfl ca sa (fun w h => h.ba)) ?_
          try simp only [Act.put, List.setIfInBounds_toArray, List.set_cons_zero, List.set_cons_succ]
          refine callH 2 rfl (by kernel_rfl) (fun K hK => ?_)
          go_simp
          go_wp2_with (go_at_call 9; refine (hcM2.out _ hS).mono ?_; rintro e V41 ⟨LM, cm, rfl, pm, PM, hB⟩)
          refine hK.out _ _ (hS.new hB) (fun hSn => ?_)
          clear hK K hS
          have hS := hSn
          clear hSn
          refine callH 3 rfl (by kernel_rfl) (fun K hK => ?_)
          go_simp
          go_wp2_with (go_at_call 12; refine (hcAM2.out _ _ _ _ hS pm PM).mono ?_; rintro e V42 ⟨rfl, hB⟩)
          refine hK.out _ _ (hS.new hB) (fun hSn => ?_)
          clear hK K hS
          have hS := hSn
          clear hSn
          refine takeH 4 (v := ?_) rfl (by kernel_rfl) (by kernel_rfl) (by kernel_rfl) (fun _ _ _ h => h) (by rfl) hS ?_ ?_
          rotate_left
          · (intro wz hSw; clear hSw; go_simp; try with_reducible rfl)
          try simp only [Act.put, List.setIfInBounds_toArray, List.set_cons_zero, List.set_cons_succ]
          refine takeH 5 rfl (by kernel_rfl) (by kernel_rfl) (by kernel_rfl) (fun _ _ _ h => h) (by rfl) hS (load_row22 (.tmp 7) rfl gc rfl cc sc (fun w h => h.bc)) ?_
          try simp only [Act.put, List.setIfInBounds_toArray, List.set_cons_zero, List.set_cons_succ]
          refine takeH 6 rfl (by kernel_rfl) (by kernel_rfl) (by kernel_rfl) (fun _ _ _ h => h) (by rfl) hS (load_row22 (.tmp 5) rfl ga rfl ca sa (fun w h => h.ba)) ?_
          try simp only [Act.put, List.setIfInBounds_toArray, List.set_cons_zero, List.set_cons_succ]
          refine callH 7 rfl (by kernel_rfl) (fun K hK => ?_)
          go_simp
          go_wp2_with (go_at_call 12; refine (hcOA.out _ hS).mono ?_; rintro e V43 ⟨rfl, hB⟩)
          refine hK.out _ _ (hS.new hB) (fun hSn => ?_)
          clear hK K hS
          have hS := hSn
          clear hSn
          refine takeH 8 (v := ?_) rfl (by kernel_rfl) (by kernel_rfl) (by kernel_rfl) (fun _ _ _ h => h) (by rfl) hS ?_ ?_
          rotate_left
          · (intro wz hSw; clear hSw; go_simp; try with_reducible rfl)
          try simp only [Act.put, List.setIfInBounds_toArray, List.set_cons_zero, List.set_cons_succ]
          refine takeH 9 (v := ?_) rfl (by kernel_rfl) (by kernel_rfl) (by kernel_rfl) (fun _ _ _ h => h) (by rfl) hS ?_ ?_
          rotate_left
          · (intro wz hSw; clear hSw; go_simp; try with_reducible rfl)
          try simp only [Act.put, List.setIfInBounds_toArray, List.set_cons_zero, List.set_cons_succ]
          refine takeH 10 (v := ?_) rfl (by kernel_rfl) (by kernel_rfl) (by kernel_rfl) (fun _ _ _ h => h) (by rfl) hS ?_ ?_
          rotate_left
          · (intro wz hSw; clear hSw; go_simp; try with_reducible rfl)
          try simp only [Act.put, List.setIfInBounds_toArray, List.set_cons_zero, List.set_cons_succ]
          refine wpAnyH_done (by kernel_rfl) ?_ _
          replace hS := Lib.hid hS
          go_wp2_with fail
          go_ret
          exact ⟨rfl, hS.out.be⟩
end Go.Proofs.Ytnldbplphgfpeaa
