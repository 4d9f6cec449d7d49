/- The law on sums. -/
import Derived.Test.YtnldbplphgfpeaaTLd
import Derived.Test.YtnldbplphgfpeaaTGr
import Derived.Test.YtnldbplphgfpeaaTEq
namespace Go.Proofs.Ytnldbplphgfpeaa
open Go Go.RowKit Go.Shelf
set_option linter.unusedVariables false
set_option linter.unusedSimpArgs false
set_option maxHeartbeats 8000000
def ifB (gx : Nat) (la lb : Loc) (x : Ex Loc) (s t : List (St Loc)) : St Loc := .mk ⟨6, ⟨#[]⟩, 0⟩ ⟨some ⟨gx, 0, none⟩, 1⟩ la lb [x] s t
theorem lst_one' {W : World} {g : Nat} {x : St Loc} {cells : Array Value} (hb : Blk W g 51 cells) (hc : cells = (x.cells eT).toArray) (hx : x.ok eT W) : Lst.ok eT W ⟨some ⟨g, 0, none⟩, 1⟩ [x] := by
  subst hc
  refine ⟨⟨by simp [cellsS, St.cells_len], Nat.le_refl _, (show 1 ≤ 9223372036854775807 by omega), fun _ => ⟨_, rfl, fun j u hu => ?_⟩⟩, hx, trivial⟩
  rw [Addr.add_lit, Nat.zero_add, hb.cell j]
  simpa [cellsS] using hu
theorem lex_one' {W : World} {g : Nat} {x : Ex Loc} {cells : Array Value} (hb : Blk W g 30 cells) (hc : cells = (x.cells eT).toArray) : RowIn W 6 ⟨some ⟨g, 0, none⟩, 1⟩ 1 (cellsL eT [x]) := by
  subst hc
  refine ⟨by simp [cellsL, Ex.cells_len], Nat.le_refl _, (show 1 ≤ 9223372036854775807 by omega), fun _ => ⟨_, rfl, fun j u hu => ?_⟩⟩
  rw [Addr.add_lit, Nat.zero_add, hb.cell j]
  simpa [cellsL] using hu
theorem lex_two' {W : World} {g : Nat} {x y : Ex Loc} {cells : Array Value} (hb : Blk W g 30 cells) (hc : cells = (x.cells eT ++ y.cells eT).toArray) : RowIn W 6 ⟨some ⟨g, 0, none⟩, 2⟩ 2 (cellsL eT [x, y]) := by
  subst hc
  refine ⟨by simp [cellsL, Ex.cells_len], Nat.le_refl _, (show 2 ≤ 9223372036854775807 by omega), fun _ => ⟨_, rfl, fun j u hu => ?_⟩⟩
  rw [Addr.add_lit, Nat.zero_add, hb.cell j]
  simpa [cellsL] using hu
theorem ifB_sz (gx : Nat) (la lb : Loc) (x : Ex Loc) (s t : List (St Loc)) : szS [ifB gx la lb x s t] = 1 + x.sz + szS s + szS t := by simp [ifB, szS, St.sz, szs]
theorem ifB_dp (gx : Nat) (la lb : Loc) (x : Ex Loc) (s t : List (St Loc)) : dpS [ifB gx la lb x s t] = 1 + dpS (s ++ t) := by simp [ifB, dpS, St.dp, dpS_append]
theorem ifB_calls (gx : Nat) (la lb : Loc) (x : Ex Loc) (s t : List (St Loc)) : callsS [ifB gx la lb x s t] = callsS (s ++ t) := by
  simp only [callsS, ifB, nodesS, St.nodes, nodesS_append, List.append_nil, List.foldl_cons]
  rfl
/-- Names joined: those of both, each once. -/
theorem withL_mem {l : List ByteArray} {s x : ByteArray} : x ∈ withL l s ↔ x ∈ l ∨ x = s := by
  unfold withL
  split
  · rename_i h
    rw [hasL_iff] at h
    exact ⟨.inl, fun h' => h'.elim id fun e => e ▸ h⟩
  · simp
theorem withL_id {l : List ByteArray} {s : ByteArray} (h : s ∈ l) : withL l s = l := by
  unfold withL
  rw [if_pos (hasL_iff.2 h)]
theorem foldW_mem {x : ByteArray} : ∀ (l acc : List ByteArray), x ∈ l ∨ x ∈ acc → x ∈ l.foldl withL acc
  | [], acc, h => by simpa using h
  | y :: l, acc, h => by
    refine foldW_mem l (withL acc y) ?_
    rcases h with h | h
    · rcases List.mem_cons.1 h with rfl | h
      · exact .inr (withL_mem.2 (.inr rfl))
      · exact .inl h
    · exact .inr (withL_mem.2 (.inl h))
theorem foldW_with (acc l : List ByteArray) (s : ByteArray) : (withL l s).foldl withL acc = withL (l.foldl withL acc) s := by
  by_cases h : s ∈ l
  · rw [withL_id h, withL_id (foldW_mem l acc (.inl h))]
  · have : withL l s = l ++ [s] := by
      unfold withL
      rw [if_neg (fun e => h (hasL_iff.1 e))]
    rw [this, List.foldl_append]; rfl
theorem foldW_step {α : Type} (acc : List ByteArray) : ∀ (ns : List (Ex α)) (l : List ByteArray), (ns.foldl stepN l).foldl withL acc = ns.foldl stepN (l.foldl withL acc)
  | [], l => rfl
  | x :: ns, l => by
    rw [List.foldl_cons, List.foldl_cons, foldW_step acc ns]
    congr 1
    unfold stepN
    split
    · exact foldW_with _ _ _
    · rfl
theorem namesE_bin {α : Type} (op : Int) (l : α) (x y : Ex α) : namesE (.mk ⟨6, op, 0, 0, ⟨#[]⟩⟩ l [x, y]) = (namesE y).foldl withL (namesE x) := by
  unfold namesE
  rw [foldW_step]
  simp only [Ex.nodes, nodess, List.append_nil, List.foldl_cons, List.foldl_append, List.foldl_nil]
  rfl
theorem foldW_take {l : List ByteArray} {k : Nat} {x : ByteArray} (h : l[k]? = some x) (acc : List ByteArray) : (l.take (k + 1)).foldl withL acc = withL ((l.take k).foldl withL acc) x := by
  obtain ⟨hk, e⟩ := List.getElem?_eq_some_iff.1 h
  rw [List.take_succ_eq_append_getElem hk, List.foldl_append, e]; rfl
theorem foldW_len : ∀ (l acc : List ByteArray), (l.foldl withL acc).length ≤ acc.length + l.length
  | [], acc => by simp
  | x :: l, acc => by
    have h1 := foldW_len l (withL acc x)
    have h2 := withL_len acc x
    simp only [List.foldl_cons, List.length_cons]; omega
theorem namesE_len (e : Ex Loc) (h : e.sz ≤ 10000) : (namesE e).length ≤ 10000 := by
  have h1 := foldN_len e.nodes []
  have h2 := e.nodes_len
  have h3 : (namesE e).length ≤ e.nodes.length := by simpa [namesE] using h1
  omega
/-- What stays while sums are told. -/
structure SU (w : World) (ga gb gi : Nat) (LA LB : Pg Loc) (ca cb : Array Value) (lt : Loc) (s : St Loc) (W : World) : Prop where
  ba : Blk W ga 35 ca
  bb : Blk W gb 35 cb
  pa : Prg W w.heap.size LA ca
  pb : Prg W w.heap.size LB cb
  lt : Lst.ok eT W lt (LA.work ++ LB.recov)
  li : Lst.ok eT W ⟨some ⟨gi, 0, none⟩, 1⟩ [s]
  be : Below w.heap.size w W
theorem SU.new {w : World} {ga gb gi : Nat} {LA LB : Pg Loc} {ca cb : Array Value} {lt : Loc} {s : St Loc} {W W' : World} (h : SU w ga gb gi LA LB ca cb lt s W) (hb : Below W.heap.size W W') : SU w ga gb gi LA LB ca cb lt s W' :=
  ⟨h.ba.below hb h.ba.lt, h.bb.below hb h.bb.lt, h.pa.new hb, h.pb.new hb, h.lt.all (keeps_below hb), h.li.all (keeps_below hb), below_and h.be hb⟩
/-- And of names. -/
structure SV (w : World) (ga gb ge : Nat) (LA LB : Pg Loc) (ca cb : Array Value) (x : Ex Loc) (W : World) : Prop where
  ba : Blk W ga 35 ca
  bb : Blk W gb 35 cb
  bx : Blk W ge 30 (x.cells eT).toArray
  pa : Prg W w.heap.size LA ca
  pb : Prg W w.heap.size LB cb
  xo : x.ok eT W
  be : Below w.heap.size w W
theorem SV.new {w : World} {ga gb ge : Nat} {LA LB : Pg Loc} {ca cb : Array Value} {x : Ex Loc} {W W' : World} (h : SV w ga gb ge LA LB ca cb x W) (hb : Below W.heap.size W W') : SV w ga gb ge LA LB ca cb x W' :=
  ⟨h.ba.below hb h.ba.lt, h.bb.below hb h.bb.lt, h.bx.below hb h.bx.lt, h.pa.new hb, h.pb.new hb, h.xo.below hb, below_and h.be hb⟩
theorem SV.range {w : World} {ga gb ge : Nat} {LA LB : Pg Loc} {ca cb : Array Value} {x : Ex Loc} {W : World} (h : SV w ga gb ge LA LB ca cb x W) : W.rangeAt ge 0 (x.cells eT) := by
  have := range_blk h.bx
  simpa using this
/-- And a row of names. -/
structure SN (w : World) (ga gb ge : Nat) (LA LB : Pg Loc) (ca cb : Array Value) (x : Ex Loc) (A : Option Addr) (n c : Nat) (ns : List ByteArray) (W : World) : Prop where
  e : SV w ga gb ge LA LB ca cb x W
  rd : Reads W W.heap.size 1 A n (strs ns)
theorem SN.new {w : World} {ga gb ge : Nat} {LA LB : Pg Loc} {ca cb : Array Value} {x : Ex Loc} {A : Option Addr} {n c : Nat} {ns : List ByteArray} {W W' : World} (h : SN w ga gb ge LA LB ca cb x A n c ns W) (hb : Below W.heap.size W W') : SN w ga gb ge LA LB ca cb x A n c ns W' :=
  ⟨h.e.new hb, (h.rd.below hb).more hb.size⟩
set_option maxRecDepth 100000 in
theorem sums_ok (A1 A2 : Option Addr) (n1 c1 n2 c2 : Nat) (bk bl : List Nat) (w : World) (h1 : Byt w A1 n1 c1 bk) (h2 : Byt w A2 n2 c2 bl) :
    Calls Try.prog 4 #[.slice A1 n1 c1, .slice A2 n2 c2] w fun e w' => e = .returned (.bool true) ∧ Below w.heap.size w w' := by
  have h1' := Lib.hid h1
  have h2' := Lib.hid h2
  clear h1 h2
  go_enter Try.func4, Try.ntmps4
  go_wp2_with fail
  refine (awake_ok w).mono ?_
  rintro e W1 ⟨rfl, hB1⟩
  have hb1 := h1'.out.below hB1
  replace hB1 := Lib.hid hB1
  go_wp2_with fail
  refine (made_c hb1).mono ?_
  rintro e W2 ⟨LA, ca, rfl, pa, PA, hB2⟩
  have hB12 := below_and hB1.out hB2
  have hb2 := h2'.out.below hB12
  replace hB12 := Lib.hid hB12
  replace pa := Lib.hid pa
  replace PA := Lib.hid PA
  replace hB2 := Lib.hid hB2
  clear hb1
  go_wp2_with fail
  refine (made_c hb2).mono ?_
  rintro e W3 ⟨LB, cb, rfl, pb, PB, hB3⟩
  replace PA := Lib.hid ((PA.out.new hB3).base_le (base' := w.heap.size) hB1.out.size)
  replace PB := Lib.hid (PB.base_le (base' := w.heap.size) hB12.out.size)
  have hB13 := Lib.hid (below_and hB12.out hB3)
  replace pb := Lib.hid pb
  have sa := PA.out.size
  have sb := PB.out.size
  have oa := PA.out.one
  have ob := PB.out.one
  clear hb2 hB3
  obtain ⟨ga, hga⟩ : ∃ g, g = W3.heap.size := ⟨_, rfl⟩
  obtain ⟨W4, hW4⟩ : ∃ W, W = (W3.alloc (.cells #[.int .i64 0, .int .i64 0, .slice none 0 0, .slice none 0 0, .slice none 0 0, .slice none 0 0, .int .u8 0, .int .u8 0, .int .u32 0, .int .i64 0, .string ⟨#[]⟩, .slice none 0 0, .slice none 0 0, .slice none 0 0, .slice none 0 0, .slice none 0 0, .int .u8 0, .int .u8 0, .int .u32 0, .int .i64 0, .string ⟨#[]⟩, .slice none 0 0] 35)).alloc (.cells #[.int .i64 0, .int .i64 0, .slice none 0 0, .slice none 0 0, .slice none 0 0, .slice none 0 0, .int .u8 0, .int .u8 0, .int .u32 0, .int .i64 0, .string ⟨#[]⟩, .slice none 0 0, .slice none 0 0, .slice none 0 0, .slice none 0 0, .slice none 0 0, .int .u8 0, .int .u8 0, .int .u32 0, .int .i64 0, .string ⟨#[]⟩, .slice none 0 0] 35) := ⟨_, rfl⟩
  have hB4 : Below W3.heap.size W3 W4 := by rw [hW4]; exact ((Below.refl _ W3).alloc (Nat.le_refl _) _).alloc (by simp) _
  have xa : Blk W4 ga 35 #[.int .i64 0, .int .i64 0, .slice none 0 0, .slice none 0 0, .slice none 0 0, .slice none 0 0, .int .u8 0, .int .u8 0, .int .u32 0, .int .i64 0, .string ⟨#[]⟩, .slice none 0 0, .slice none 0 0, .slice none 0 0, .slice none 0 0, .slice none 0 0, .int .u8 0, .int .u8 0, .int .u32 0, .int .i64 0, .string ⟨#[]⟩, .slice none 0 0] := by rw [hW4, hga]; exact (Blk.new W3 35 #[.int .i64 0, .int .i64 0, .slice none 0 0, .slice none 0 0, .slice none 0 0, .slice none 0 0, .int .u8 0, .int .u8 0, .int .u32 0, .int .i64 0, .string ⟨#[]⟩, .slice none 0 0, .slice none 0 0, .slice none 0 0, .slice none 0 0, .slice none 0 0, .int .u8 0, .int .u8 0, .int .u32 0, .int .i64 0, .string ⟨#[]⟩, .slice none 0 0]).alloc _
  have xb : Blk W4 (ga + 1) 35 #[.int .i64 0, .int .i64 0, .slice none 0 0, .slice none 0 0, .slice none 0 0, .slice none 0 0, .int .u8 0, .int .u8 0, .int .u32 0, .int .i64 0, .string ⟨#[]⟩, .slice none 0 0, .slice none 0 0, .slice none 0 0, .slice none 0 0, .slice none 0 0, .int .u8 0, .int .u8 0, .int .u32 0, .int .i64 0, .string ⟨#[]⟩, .slice none 0 0] := by
    have := Blk.new (W3.alloc (.cells #[.int .i64 0, .int .i64 0, .slice none 0 0, .slice none 0 0, .slice none 0 0, .slice none 0 0, .int .u8 0, .int .u8 0, .int .u32 0, .int .i64 0, .string ⟨#[]⟩, .slice none 0 0, .slice none 0 0, .slice none 0 0, .slice none 0 0, .slice none 0 0, .int .u8 0, .int .u8 0, .int .u32 0, .int .i64 0, .string ⟨#[]⟩, .slice none 0 0] 35)) 35 #[.int .i64 0, .int .i64 0, .slice none 0 0, .slice none 0 0, .slice none 0 0, .slice none 0 0, .int .u8 0, .int .u8 0, .int .u32 0, .int .i64 0, .string ⟨#[]⟩, .slice none 0 0, .slice none 0 0, .slice none 0 0, .slice none 0 0, .slice none 0 0, .int .u8 0, .int .u8 0, .int .u32 0, .int .i64 0, .string ⟨#[]⟩, .slice none 0 0]
    rw [World.size_alloc] at this
    rw [hW4, hga]; exact this
  have hB5a := only_setCells (b := ga) ca.toList 0 W4
  have hB5b := only_setCells (b := ga + 1) cb.toList 0 (W4.setCells ga 0 ca.toList)
  have xb' := xb.only hB5a (by simp)
  have ya := (blk_put xa (by rw [sa]; rfl)).only hB5b (by simp)
  have yb := blk_put xb' (by rw [sb]; rfl)
  have hB5 : Below W3.heap.size W3 ((W4.setCells ga 0 ca.toList).setCells (ga + 1) 0 cb.toList) := hB4.trans ((hB5a.below (by have := hB4.size; omega) (by simp; omega)).trans (hB5b.below (by have := hB5a.size; have := hB4.size; omega) (by simp; omega)))
  have ta := there_blk_at xa (o := 0) (n := 22) (by decide)
  have tb := there_blk_at xb' (o := 0) (n := 22) (by decide)
  have hw5 := hB5.size
  replace hB5 := Lib.hid hB5
  replace ya := Lib.hid ya
  replace yb := Lib.hid yb
  clear xa xb xb' hB5a hB5b hB4
  have hga' := Lib.hid hga
  have hW4' := Lib.hid hW4
  clear hga hW4
  go_wp2_with (first
    | (refine wpList_store_at 35 (.tmp 5) (.tmp 17) W3.heap.size 0 ca rfl rfl (by rw [sa, ← hga'.out, ← hW4'.out]; exact ta) (by rw [sa]; kernel_rfl) oa ?_; refine Shut.out ?_))
  refine shut_mk ?_
  try simp only [Act.put, List.setIfInBounds_toArray, List.set_cons_zero, List.set_cons_succ]
  rw [← hW4'.out, ← hga'.out]
  refine wpList_store_at 35 (.tmp 6) (.tmp 19) (ga + 1) 0 cb rfl (by rfl) (by rw [sb]; exact tb) (by rw [sb]; kernel_rfl) ob ?_
  try simp only [Act.put, List.setIfInBounds_toArray, List.set_cons_zero, List.set_cons_succ]
  have hyp := And.intro ya.out (And.intro yb.out hB5.out)
  clear ya yb hB5 ta tb hw5
  generalize (W4.setCells ga 0 ca.toList).setCells (ga + 1) 0 cb.toList = W5 at *
  obtain ⟨ya, yb, hB5⟩ := hyp
  clear hW4'
  obtain ⟨gb, hgb⟩ : ∃ g, g = ga + 1 := ⟨_, rfl⟩
  rw [← hgb] at yb ⊢
  replace PA := Lib.hid (PA.out.new hB5)
  replace PB := Lib.hid (PB.out.new hB5)
  have hB05 := Lib.hid (below_and hB13.out hB5)
  have qa := made_sz pa.out
  have sza : LA.sz ≤ 20000 := by omega
  have qb := made_sz pb.out
  have szb : LB.sz ≤ 20000 := by omega
  have lga := ya.lt

  replace hgb := Lib.hid hgb
  clear hB13 hB12 hB5 hB2 hB1
  obtain ⟨_, _, _, _, _, _, k14, _⟩ := cs_at PA.out
  obtain ⟨_, _, _, _, _, _, _, k15⟩ := cs_at PB.out
  have g14 := (ya.cell 14).trans k14
  have g15 := (yb.cell 15).trans k15
  have lgb := yb.lt
  have sw := szS_len LA.work
  have sr := szS_len LB.recov
  have szs1 : LA.req.sz + szS LA.work + LA.inv.sz ≤ 9999 := by simp only [Pg.sz] at qa; omega
  have szs2 : szS LB.recov + LB.req.sz ≤ 10000 := by simp only [Pg.sz] at qb; omega
  have szw : szS LA.work + LA.req.sz ≤ 9999 := by simp only [Pg.sz] at qa; omega
  have hBz := (Below.refl _ W5).alloc (Nat.le_refl _) (.cells #[.slice LA.lw.A LA.work.length LA.lw.c, .slice LB.lr.A LB.recov.length LB.lr.c] 33)
  have hbl := Blk.new W5 33 #[.slice LA.lw.A LA.work.length LA.lw.c, .slice LB.lr.A LB.recov.length LB.lr.c]
  have hcc := concat_ok LA.lw LB.lr LA.work LB.recov W5.heap.size _ hbl ((PA.out.new hBz).own.work.ok) ((PB.out.new hBz).own.recov.ok) (by omega) (by omega)
  have ya' := Lib.hid ya
  have yb' := Lib.hid yb
  have k14' := Lib.hid k14
  have k15' := Lib.hid k15
  replace hcc := Lib.hid hcc
  replace hBz := Lib.hid hBz
  replace szs1 := Lib.hid szs1
  replace szs2 := Lib.hid szs2
  replace szw := Lib.hid szw
  replace sw := Lib.hid sw
  replace sr := Lib.hid sr
  clear hbl ya yb k14 k15 sza szb qa qb
  go_wp2_with fail
  refine hcc.out.mono ?_
  rintro e W6 ⟨TA, tc, rfl, hlt, hB6⟩
  have hB56 := below_and hBz.out hB6
  have ya := ya'.out.below hB56 ya'.out.lt
  have yb := yb'.out.below hB56 yb'.out.lt
  have PA6 := PA.out.new hB56
  have PB6 := PB.out.new hB56
  have hB06 := below_and hB05.out hB56
  clear hB6 hB56 hBz hcc PA PB hB05 g14 g15 lga lgb ya' yb'
  have g14 := (ya.cell 14).trans k14'.out
  have g15 := (yb.cell 15).trans k15'.out
  have lga := ya.lt
  have lgb := yb.lt
  have hra := cs_req PA6 ya
  obtain ⟨rq, hrq⟩ : ∃ x, x = LA.req := ⟨_, rfl⟩
  have hrok := PA6.own.req.ok
  rw [← hrq] at hra hrok
  have hrsz : rq.sz = LA.req.sz := by rw [hrq]
  obtain ⟨gx, hgx⟩ : ∃ g, g = W6.heap.size := ⟨_, rfl⟩
  replace hrq := Lib.hid hrq
  obtain ⟨si, hsi⟩ : ∃ s, s = ifB gx LA.lw LB.lr rq LA.work LB.recov := ⟨_, rfl⟩
  obtain ⟨⟨xk, xo, xv, xw, xn⟩, ⟨xA, xc⟩, xs⟩ := rq
  have hBx := ((Below.refl _ W6).alloc (Nat.le_refl _) (.cells #[.int .u8 xk, .int .u8 xo, .int .u32 xv, .int .i64 xw, .string xn, .slice xA xs.length xc] 30)).alloc (by simp) (.cells #[.int .u8 6, .string ⟨#[]⟩, .slice (some ⟨gx, 0, none⟩) 1 1, .int .i64 0, .slice LA.lw.A LA.work.length LA.lw.c, .slice LB.lr.A LB.recov.length LB.lr.c] 51)
  have x1 : Blk ((W6.alloc (.cells #[.int .u8 xk, .int .u8 xo, .int .u32 xv, .int .i64 xw, .string xn, .slice xA xs.length xc] 30)).alloc (.cells #[.int .u8 6, .string ⟨#[]⟩, .slice (some ⟨gx, 0, none⟩) 1 1, .int .i64 0, .slice LA.lw.A LA.work.length LA.lw.c, .slice LB.lr.A LB.recov.length LB.lr.c] 51)) gx 30 #[.int .u8 xk, .int .u8 xo, .int .u32 xv, .int .i64 xw, .string xn, .slice xA xs.length xc] := by rw [hgx]; exact (Blk.new W6 30 _).alloc _
  have x2 : Blk ((W6.alloc (.cells #[.int .u8 xk, .int .u8 xo, .int .u32 xv, .int .i64 xw, .string xn, .slice xA xs.length xc] 30)).alloc (.cells #[.int .u8 6, .string ⟨#[]⟩, .slice (some ⟨gx, 0, none⟩) 1 1, .int .i64 0, .slice LA.lw.A LA.work.length LA.lw.c, .slice LB.lr.A LB.recov.length LB.lr.c] 51)) (gx + 1) 51 #[.int .u8 6, .string ⟨#[]⟩, .slice (some ⟨gx, 0, none⟩) 1 1, .int .i64 0, .slice LA.lw.A LA.work.length LA.lw.c, .slice LB.lr.A LB.recov.length LB.lr.c] := by
    have := Blk.new (W6.alloc (.cells #[.int .u8 xk, .int .u8 xo, .int .u32 xv, .int .i64 xw, .string xn, .slice xA xs.length xc] 30)) 51 #[.int .u8 6, .string ⟨#[]⟩, .slice (some ⟨gx, 0, none⟩) 1 1, .int .i64 0, .slice LA.lw.A LA.work.length LA.lw.c, .slice LB.lr.A LB.recov.length LB.lr.c]
    rw [World.size_alloc] at this
    rw [hgx] at this ⊢; exact this
  have hS0 : SU w ga gb (gx + 1) LA LB ca cb ⟨TA, tc⟩ si ((W6.alloc (.cells #[.int .u8 xk, .int .u8 xo, .int .u32 xv, .int .i64 xw, .string xn, .slice xA xs.length xc] 30)).alloc (.cells #[.int .u8 6, .string ⟨#[]⟩, .slice (some ⟨gx, 0, none⟩) 1 1, .int .i64 0, .slice LA.lw.A LA.work.length LA.lw.c, .slice LB.lr.A LB.recov.length LB.lr.c] 51)) := by
    refine ⟨ya.below hBx lga, yb.below hBx lgb, PA6.new hBx, PB6.new hBx, hlt.all (keeps_below hBx), ?_, below_and hB06 hBx⟩
    rw [hsi]
    exact lst_one' x2 rfl ⟨lex_one' x1 rfl, ⟨hrok.below hBx, trivial⟩, ((PA6.new hBx).own.work.ok).1, ((PA6.new hBx).own.work.ok).2, ((PB6.new hBx).own.recov.ok).1, ((PB6.new hBx).own.recov.ok).2⟩
  have hra' : W6.rangeAt ga 6 [.int .u8 xk, .int .u8 xo, .int .u32 xv, .int .i64 xw, .string xn, .slice xA xs.length xc] := hra
  have hgx' := Lib.hid hgx
  replace hsi := Lib.hid hsi
  replace hrsz := Lib.hid hrsz
  replace hS0 := Lib.hid hS0
  clear hBx x1 x2 ya yb PA6 PB6 hlt hB06 hrok hgx hra
  go_wp2_with (refine wpList_load_mid rfl 30 (.tmp 26) rfl ga 6 rfl [.int .u8 xk, .int .u8 xo, .int .u32 xv, .int .i64 xw, .string xn, .slice xA xs.length xc] _ hra' Try.underlying30 rfl (by kernel_rfl) ?_; refine Shut.out ?_)
  refine shut_mk ?_
  clear hra'
  go_upto_region 6 with (fail)
  try rw [← hgx'.out]
  have hS := hS0.out.new ((Below.refl _ _).drew)
  clear hS0
  generalize (W6.alloc (.cells #[.int .u8 xk, .int .u8 xo, .int .u32 xv, .int .i64 xw, .string xn, .slice xA xs.length xc] 30)).alloc (.cells #[.int .u8 6, .string ⟨#[]⟩, .slice (some ⟨gx, 0, none⟩) 1 1, .int .i64 0, .slice LA.lw.A LA.work.length LA.lw.c, .slice LB.lr.A LB.recov.length LB.lr.c] 51) = W7 at *
  clear g14 g15 lga lgb
  obtain ⟨za, hza⟩ : ∃ n, n = szS LA.work := ⟨_, rfl⟩
  obtain ⟨zb, hzb⟩ : ∃ n, n = szS LB.recov := ⟨_, rfl⟩
  obtain ⟨zr, hzr⟩ : ∃ n, n = LA.req.sz := ⟨_, rfl⟩
  have za1 : (za : Int) ≤ 10000 := by have := szw.out; omega
  have zb1 : (zb : Int) ≤ 10000 := by have := szs2.out; omega
  have zr1 : (zr : Int) ≤ 10000 := by have := szw.out; omega
  have hcA : ∀ W, SU w ga gb (gx + 1) LA LB ca cb ⟨TA, tc⟩ si W → Calls Try.prog 15 #[.slice LA.lw.A LA.work.length LA.lw.c] W fun x w' => x = .returned (.int .i64 (za : Nat)) ∧ Below W.heap.size W w' := fun W h => sizeS LA.work LA.lw (thin_of (by omega)) W h.pa.own.work.ok _ (by rw [if_pos (by omega)]; exact hza)
  have hcB : ∀ W, SU w ga gb (gx + 1) LA LB ca cb ⟨TA, tc⟩ si W → Calls Try.prog 15 #[.slice LB.lr.A LB.recov.length LB.lr.c] W fun x w' => x = .returned (.int .i64 (zb : Nat)) ∧ Below W.heap.size W w' := fun W h => sizeS LB.recov LB.lr (thin_of (by omega)) W h.pb.own.recov.ok _ (by rw [if_pos (by omega)]; exact hzb)
  have hcR : ∀ W, SU w ga gb (gx + 1) LA LB ca cb ⟨TA, tc⟩ si W → Calls Try.prog 14 #[aggX LA.req] W fun x w' => x = .returned (.int .i64 (zr : Nat)) ∧ Below W.heap.size W w' := fun W h => sizeE LA.req W h.pa.own.req.ok _ (by rw [if_pos (by omega)]; exact hzr)
  have hlen : LA.work.length + LB.recov.length = (LA.work ++ LB.recov).length := by rw [List.length_append]
  have hsb : szS (LA.work ++ LB.recov) = za + zb := by rw [szS_append, hza, hzb]
  have hsl : szS [si] = za + zb + 1 + zr := by rw [hsi.out, ifB_sz, hrsz.out]; omega
  have hcT : ∀ W, SU w ga gb (gx + 1) LA LB ca cb ⟨TA, tc⟩ si W → Calls Try.prog 15 #[.slice TA (LA.work.length + LB.recov.length) tc] W fun x w' => x = .returned (.int .i64 (za + zb : Nat)) ∧ Below W.heap.size W w' := fun W h => by
    rw [hlen]
    exact sizeS (LA.work ++ LB.recov) ⟨TA, tc⟩ (thin_of (by omega)) W h.lt _ (by rw [if_pos (by omega)]; exact hsb.symm)
  have hcI : ∀ W, SU w ga gb (gx + 1) LA LB ca cb ⟨TA, tc⟩ si W → Calls Try.prog 15 #[.slice (some ⟨gx + 1, 0, none⟩) 1 1] W fun x w' => x = .returned (.int .i64 (za + zb + 1 + zr : Nat)) ∧ Below W.heap.size W w' := fun W h => sizeS [si] ⟨some ⟨gx + 1, 0, none⟩, 1⟩ (thin_of (by have := szw.out; omega)) W h.li _ (by rw [if_pos (by have := szw.out; omega)]; exact hsl.symm)
  obtain ⟨da, hda⟩ : ∃ n, n = dpS LA.work := ⟨_, rfl⟩
  obtain ⟨db, hdb⟩ : ∃ n, n = dpS LB.recov := ⟨_, rfl⟩
  have da1 := dpS_le LA.work
  have db1 := dpS_le LB.recov
  obtain ⟨dm, hdm⟩ : ∃ n, n = max da db := ⟨_, rfl⟩
  have hdT : dpS (LA.work ++ LB.recov) = dm := by rw [dpS_append, hdm, hda, hdb]
  have hdI : dpS [si] = 1 + dm := by rw [hsi.out, ifB_dp, hdT]
  have hmb : dm ≤ 20000 := by omega
  have hmx : max (da : Int) (db : Int) = (dm : Int) := by omega
  have hcDA : ∀ W, SU w ga gb (gx + 1) LA LB ca cb ⟨TA, tc⟩ si W → Calls Try.prog 18 #[.slice LA.lw.A LA.work.length LA.lw.c] W fun x w' => x = .returned (.int .i64 (da : Nat)) ∧ Below W.heap.size W w' := fun W h => by rw [hda]; exact depth_yes LA.work LA.lw W h.pa.own.work.ok (by omega)
  have hcDB : ∀ W, SU w ga gb (gx + 1) LA LB ca cb ⟨TA, tc⟩ si W → Calls Try.prog 18 #[.slice LB.lr.A LB.recov.length LB.lr.c] W fun x w' => x = .returned (.int .i64 (db : Nat)) ∧ Below W.heap.size W w' := fun W h => by rw [hdb]; exact depth_yes LB.recov LB.lr W h.pb.own.recov.ok (by omega)
  have hcDT : ∀ W, SU w ga gb (gx + 1) LA LB ca cb ⟨TA, tc⟩ si W → Calls Try.prog 18 #[.slice TA (LA.work.length + LB.recov.length) tc] W fun x w' => x = .returned (.int .i64 (dm : Nat)) ∧ Below W.heap.size W w' := fun W h => by rw [hlen, ← hdT]; exact depth_yes (LA.work ++ LB.recov) ⟨TA, tc⟩ W h.lt (by omega)
  have hcDI : ∀ W, SU w ga gb (gx + 1) LA LB ca cb ⟨TA, tc⟩ si W → Calls Try.prog 18 #[.slice (some ⟨gx + 1, 0, none⟩) 1 1] W fun x w' => x = .returned (.int .i64 (1 + dm : Nat)) ∧ Below W.heap.size W w' := fun W h => by rw [← hdI]; exact depth_yes [si] ⟨some ⟨gx + 1, 0, none⟩, 1⟩ W h.li (by have := szw.out; omega)
  obtain ⟨cl, hcl⟩ : ∃ l, l = callsS (LA.work ++ LB.recov) := ⟨_, rfl⟩
  have hci : callsS [si] = cl := by rw [hsi.out, ifB_calls, hcl]
  have hnl : cl.length ≤ 20000 := by
    have h1 := foldC_len (nodesS (LA.work ++ LB.recov)) []
    have h2 := nodesS_len_le (LA.work ++ LB.recov)
    have h3 : cl.length ≤ (nodesS (LA.work ++ LB.recov)).length := by simpa [hcl, callsS] using h1
    omega
  have hcCT : ∀ W, SU w ga gb (gx + 1) LA LB ca cb ⟨TA, tc⟩ si W → Calls Try.prog 20 #[.slice TA (LA.work.length + LB.recov.length) tc] W fun r w' => (∃ v, r = .returned v ∧ w'.ownsRow W.heap.size 9 1 v cl.length (strs cl)) ∧ Below W.heap.size W w' := fun W h => by rw [hlen, hcl]; exact calls_ok (LA.work ++ LB.recov) ⟨TA, tc⟩ W h.lt (by omega)
  have hcCI : ∀ W, SU w ga gb (gx + 1) LA LB ca cb ⟨TA, tc⟩ si W → Calls Try.prog 20 #[.slice (some ⟨gx + 1, 0, none⟩) 1 1] W fun r w' => (∃ v, r = .returned v ∧ w'.ownsRow W.heap.size 9 1 v cl.length (strs cl)) ∧ Below W.heap.size W w' := fun W h => by rw [← hci]; exact calls_ok [si] ⟨some ⟨gx + 1, 0, none⟩, 1⟩ W h.li (by have := szw.out; omega)
  have hmx' := Lib.hid hmx
  clear hmx
  replace hcA := Lib.hid hcA
  replace hcB := Lib.hid hcB
  replace hcR := Lib.hid hcR
  replace hcT := Lib.hid hcT
  replace hcI := Lib.hid hcI
  replace hcDA := Lib.hid hcDA
  replace hcDB := Lib.hid hcDB
  replace hcDT := Lib.hid hcDT
  replace hcDI := Lib.hid hcDI
  replace hcCT := Lib.hid hcCT
  replace hcCI := Lib.hid hcCI
  replace hza := Lib.hid hza
  replace hzb := Lib.hid hzb
  replace hzr := Lib.hid hzr
  replace hlen := Lib.hid hlen
  replace hsb := Lib.hid hsb
  replace hsl := Lib.hid hsl
  replace hda := Lib.hid hda
  replace hdb := Lib.hid hdb
  replace hdm := Lib.hid hdm
  replace hdT := Lib.hid hdT
  replace hdI := Lib.hid hdI
  replace hcl := Lib.hid hcl
  replace hci := Lib.hid hci
  replace hnl := Lib.hid hnl
  clear da1 db1
  refine wp_region_held (S := SU w ga gb (gx + 1) LA LB ca cb ⟨TA, tc⟩ si) (by kernel_rfl) ?_
  change wpAnyH _ _ _ _ _ _ _ _ (World.drew _)
  refine takeH 0 (v := ?_) rfl (by kernel_rfl) (by kernel_rfl) (by kernel_rfl) (fun _ _ _ h => h) (by rfl) hS ?_ ?_
  rotate_left
  · (intro wz hSw; clear hSw; go_simp; try with_reducible rfl)
  try simp only [Act.put, List.setIfInBounds_toArray, List.set_cons_zero, List.set_cons_succ]
  refine takeH 3 (v := ?_) rfl (by kernel_rfl) (by kernel_rfl) (by kernel_rfl) (fun _ _ _ h => h) (by rfl) hS ?_ ?_
  rotate_left
  · (intro wz hSw; clear hSw; go_simp; try with_reducible rfl)
  try simp only [Act.put, List.setIfInBounds_toArray, List.set_cons_zero, List.set_cons_succ]
  refine takeH 1 (v := .slice LA.lw.A LA.work.length LA.lw.c) rfl (by kernel_rfl) (by kernel_rfl) (by kernel_rfl) (fun _ _ _ h => h) (by rfl) hS ?_ ?_
  · (intro wz hSw; have z := hSw.ba.cell 14; rw [k14'.out] at z; clear hSw; go_simp)
  try simp only [Act.put, List.setIfInBounds_toArray, List.set_cons_zero, List.set_cons_succ]
  refine takeH 4 (v := .slice LB.lr.A LB.recov.length LB.lr.c) rfl (by kernel_rfl) (by kernel_rfl) (by kernel_rfl) (fun _ _ _ h => h) (by rfl) hS ?_ ?_
  · (intro wz hSw; have z := hSw.bb.cell 15; rw [k15'.out] at z; clear hSw; go_simp)
  try simp only [Act.put, List.setIfInBounds_toArray, List.set_cons_zero, List.set_cons_succ]
  refine callH 2 rfl (by kernel_rfl) (fun K hK => ?_)
  go_simp
  go_wp2_with (go_at_call 15; refine (hcA.out _ hS).mono ?_; rintro e U1 ⟨rfl, hB⟩)
  refine hK.out _ _ (hS.new hB) (fun hSn => ?_)
  clear hK K hS
  have hS := hSn
  clear hSn
  refine callH 5 rfl (by kernel_rfl) (fun K hK => ?_)
  go_simp
  go_wp2_with (go_at_call 15; refine (hcB.out _ hS).mono ?_; rintro e U2 ⟨rfl, hB⟩)
  refine hK.out _ _ (hS.new hB) (fun hSn => ?_)
  clear hK K hS
  have hS := hSn
  clear hSn
  refine takeH 6 (v := ?_) rfl (by kernel_rfl) (by kernel_rfl) (by kernel_rfl) (fun _ _ _ h => h) (by rfl) hS ?_ ?_
  rotate_left
  · (intro wz hSw; clear hSw; go_simp; try with_reducible rfl)
  try simp only [Act.put, List.setIfInBounds_toArray, List.set_cons_zero, List.set_cons_succ]
  refine takeH 7 (v := ?_) rfl (by kernel_rfl) (by kernel_rfl) (by kernel_rfl) (fun _ _ _ h => h) (by rfl) hS ?_ ?_
  rotate_left
  · (intro wz hSw; clear hSw; go_simp; try with_reducible rfl)
  try simp only [Act.put, List.setIfInBounds_toArray, List.set_cons_zero, List.set_cons_succ]
  refine wpAnyH_done (by kernel_rfl) ?_ _
  replace hS := Lib.hid hS
  go_upto_region 7 with (fail)
  rw [i64_id (x := (za : Int) + zb) (by omega) (by omega)]
  have hS := hS.out.new ((Below.refl _ _).drew)
  refine wp_region_held (S := SU w ga gb (gx + 1) LA LB ca cb ⟨TA, tc⟩ si) (by kernel_rfl) ?_
  change wpAnyH _ _ _ _ _ _ _ _ (World.drew _)
  refine takeH 0 (v := ?_) rfl (by kernel_rfl) (by kernel_rfl) (by kernel_rfl) (fun _ _ _ h => h) (by rfl) hS ?_ ?_
  rotate_left
  · (intro wz hSw; clear hSw; go_simp; try with_reducible rfl)
  try simp only [Act.put, List.setIfInBounds_toArray, List.set_cons_zero, List.set_cons_succ]
  refine takeH 2 (v := ?_) rfl (by kernel_rfl) (by kernel_rfl) (by kernel_rfl) (fun _ _ _ h => h) (by rfl) hS ?_ ?_
  rotate_left
  · (intro wz hSw; clear hSw; go_simp; try with_reducible rfl)
  try simp only [Act.put, List.setIfInBounds_toArray, List.set_cons_zero, List.set_cons_succ]
  refine callH 1 rfl (by kernel_rfl) (fun K hK => ?_)
  go_simp
  go_wp2_with (go_at_call 15; refine (hcT.out _ hS).mono ?_; rintro e U3 ⟨rfl, hB⟩)
  refine hK.out _ _ (hS.new hB) (fun hSn => ?_)
  clear hK K hS
  have hS := hSn
  clear hSn
  refine takeH 3 (v := .bool false) rfl (by kernel_rfl) (by kernel_rfl) (by kernel_rfl) (fun _ _ _ h => h) (by rfl) hS ?_ ?_
  · (intro wz hSw; clear hSw; go_simp)
  try simp only [Act.put, List.setIfInBounds_toArray, List.set_cons_zero, List.set_cons_succ]
  refine takeH 4 (v := ?_) rfl (by kernel_rfl) (by kernel_rfl) (by kernel_rfl) (fun _ _ _ h => h) (by rfl) hS ?_ ?_
  rotate_left
  · (intro wz hSw; clear hSw; go_simp; try with_reducible rfl)
  try simp only [Act.put, List.setIfInBounds_toArray, List.set_cons_zero, List.set_cons_succ]
  refine takeH 5 (v := ?_) rfl (by kernel_rfl) (by kernel_rfl) (by kernel_rfl) (fun _ _ _ h => h) (by rfl) hS ?_ ?_
  rotate_left
  · (intro wz hSw; clear hSw; go_simp; try with_reducible rfl)
  try simp only [Act.put, List.setIfInBounds_toArray, List.set_cons_zero, List.set_cons_succ]
  refine takeH 7 (v := ?_) rfl (by kernel_rfl) (by kernel_rfl) (by kernel_rfl) (fun _ _ _ h => h) (by rfl) hS ?_ ?_
  rotate_left
  · (intro wz hSw; clear hSw; go_simp; try with_reducible rfl)
  try simp only [Act.put, List.setIfInBounds_toArray, List.set_cons_zero, List.set_cons_succ]
  refine takeH 8 (v := .int .i64 ((za : Int) + zb + 1)) rfl (by kernel_rfl) (by kernel_rfl) (by kernel_rfl) (fun _ _ _ h => h) (by rfl) hS ?_ ?_
  · (intro wz hSw; clear hSw; have zz := i64_id (x := (za : Int) + zb + 1) (by omega) (by omega); go_simp)
  try simp only [Act.put, List.setIfInBounds_toArray, List.set_cons_zero, List.set_cons_succ]
  refine takeH 9 (v := ?_) rfl (by kernel_rfl) (by kernel_rfl) (by kernel_rfl) (fun _ _ _ h => h) (by rfl) hS ?_ ?_
  rotate_left
  · (intro wz hSw; clear hSw; go_simp; try with_reducible rfl)
  try simp only [Act.put, List.setIfInBounds_toArray, List.set_cons_zero, List.set_cons_succ]
  refine takeH 10 rfl (by kernel_rfl) (by kernel_rfl) (by kernel_rfl) (fun _ _ _ h => h) (by rfl) hS (load_expr (.tmp 51) rfl ga 6 rfl LA.req (fun w h => cs_req h.pa h.ba)) ?_
  try simp only [Act.put, List.setIfInBounds_toArray, List.set_cons_zero, List.set_cons_succ]
  refine callH 6 rfl (by kernel_rfl) (fun K hK => ?_)
  go_simp
  go_wp2_with (go_at_call 15; refine (hcI.out _ hS).mono ?_; rintro e U4 ⟨rfl, hB⟩)
  refine hK.out _ _ (hS.new hB) (fun hSn => ?_)
  clear hK K hS
  have hS := hSn
  clear hSn
  refine callH 11 rfl (by kernel_rfl) (fun K hK => ?_)
  go_simp
  go_wp2_with (go_at_call 14; refine (hcR.out _ hS).mono ?_; rintro e U5 ⟨rfl, hB⟩)
  refine hK.out _ _ (hS.new hB) (fun hSn => ?_)
  clear hK K hS
  have hS := hSn
  clear hSn
  refine takeH 12 (v := .int .i64 ((za : Int) + zb + 1 + zr)) rfl (by kernel_rfl) (by kernel_rfl) (by kernel_rfl) (fun _ _ _ h => h) (by rfl) hS ?_ ?_
  · (intro wz hSw; clear hSw; have zz := i64_id (x := (za : Int) + zb + 1 + zr) (by omega) (by omega); go_simp)
  try simp only [Act.put, List.setIfInBounds_toArray, List.set_cons_zero, List.set_cons_succ]
  refine takeH 13 (v := .bool false) rfl (by kernel_rfl) (by kernel_rfl) (by kernel_rfl) (fun _ _ _ h => h) (by rfl) hS ?_ ?_
  · (intro wz hSw; clear hSw; go_simp)
  try simp only [Act.put, List.setIfInBounds_toArray, List.set_cons_zero, List.set_cons_succ]
  refine takeH 14 (v := ?_) rfl (by kernel_rfl) (by kernel_rfl) (by kernel_rfl) (fun _ _ _ h => h) (by rfl) hS ?_ ?_
  rotate_left
  · (intro wz hSw; clear hSw; go_simp; try with_reducible rfl)
  try simp only [Act.put, List.setIfInBounds_toArray, List.set_cons_zero, List.set_cons_succ]
  refine takeH 15 (v := ?_) rfl (by kernel_rfl) (by kernel_rfl) (by kernel_rfl) (fun _ _ _ h => h) (by rfl) hS ?_ ?_
  rotate_left
  · (intro wz hSw; clear hSw; go_simp; try with_reducible rfl)
  try simp only [Act.put, List.setIfInBounds_toArray, List.set_cons_zero, List.set_cons_succ]
  refine takeH 16 (v := ?_) rfl (by kernel_rfl) (by kernel_rfl) (by kernel_rfl) (fun _ _ _ h => h) (by rfl) hS ?_ ?_
  rotate_left
  · (intro wz hSw; clear hSw; go_simp; try with_reducible rfl)
  try simp only [Act.put, List.setIfInBounds_toArray, List.set_cons_zero, List.set_cons_succ]
  refine takeH 18 (v := ?_) rfl (by kernel_rfl) (by kernel_rfl) (by kernel_rfl) (fun _ _ _ h => h) (by rfl) hS ?_ ?_
  rotate_left
  · (intro wz hSw; clear hSw; go_simp; try with_reducible rfl)
  try simp only [Act.put, List.setIfInBounds_toArray, List.set_cons_zero, List.set_cons_succ]
  refine takeH 21 (v := ?_) rfl (by kernel_rfl) (by kernel_rfl) (by kernel_rfl) (fun _ _ _ h => h) (by rfl) hS ?_ ?_
  rotate_left
  · (intro wz hSw; clear hSw; go_simp; try with_reducible rfl)
  try simp only [Act.put, List.setIfInBounds_toArray, List.set_cons_zero, List.set_cons_succ]
  refine takeH 19 (v := .slice LA.lw.A LA.work.length LA.lw.c) rfl (by kernel_rfl) (by kernel_rfl) (by kernel_rfl) (fun _ _ _ h => h) (by rfl) hS ?_ ?_
  · (intro wz hSw; have z := hSw.ba.cell 14; rw [k14'.out] at z; clear hSw; go_simp)
  try simp only [Act.put, List.setIfInBounds_toArray, List.set_cons_zero, List.set_cons_succ]
  refine takeH 22 (v := .slice LB.lr.A LB.recov.length LB.lr.c) rfl (by kernel_rfl) (by kernel_rfl) (by kernel_rfl) (fun _ _ _ h => h) (by rfl) hS ?_ ?_
  · (intro wz hSw; have z := hSw.bb.cell 15; rw [k15'.out] at z; clear hSw; go_simp)
  try simp only [Act.put, List.setIfInBounds_toArray, List.set_cons_zero, List.set_cons_succ]
  refine callH 17 rfl (by kernel_rfl) (fun K hK => ?_)
  go_simp
  go_wp2_with (go_at_call 18; refine (hcDT.out _ hS).mono ?_; rintro e U6 ⟨rfl, hB⟩)
  refine hK.out _ _ (hS.new hB) (fun hSn => ?_)
  clear hK K hS
  have hS := hSn
  clear hSn
  refine callH 20 rfl (by kernel_rfl) (fun K hK => ?_)
  go_simp
  go_wp2_with (go_at_call 18; refine (hcDA.out _ hS).mono ?_; rintro e U7 ⟨rfl, hB⟩)
  refine hK.out _ _ (hS.new hB) (fun hSn => ?_)
  clear hK K hS
  have hS := hSn
  clear hSn
  refine callH 23 rfl (by kernel_rfl) (fun K hK => ?_)
  go_simp
  go_wp2_with (go_at_call 18; refine (hcDB.out _ hS).mono ?_; rintro e U8 ⟨rfl, hB⟩)
  refine hK.out _ _ (hS.new hB) (fun hSn => ?_)
  clear hK K hS
  have hS := hSn
  clear hSn
  refine takeH 24 (v := .int .i64 (dm : Int)) rfl (by kernel_rfl) (by kernel_rfl) (by kernel_rfl) (fun _ _ _ h => h) (by rfl) hS ?_ ?_
  · (intro wz hSw; clear hSw; go_simp; have zz := hmx'.out; split <;> omega)
  try simp only [Act.put, List.setIfInBounds_toArray, List.set_cons_zero, List.set_cons_succ]
  refine takeH 25 (v := .bool false) rfl (by kernel_rfl) (by kernel_rfl) (by kernel_rfl) (fun _ _ _ h => h) (by rfl) hS ?_ ?_
  · (intro wz hSw; clear hSw; go_simp)
  try simp only [Act.put, List.setIfInBounds_toArray, List.set_cons_zero, List.set_cons_succ]
  refine takeH 26 (v := ?_) rfl (by kernel_rfl) (by kernel_rfl) (by kernel_rfl) (fun _ _ _ h => h) (by rfl) hS ?_ ?_
  rotate_left
  · (intro wz hSw; clear hSw; go_simp; try with_reducible rfl)
  try simp only [Act.put, List.setIfInBounds_toArray, List.set_cons_zero, List.set_cons_succ]
  refine takeH 27 (v := ?_) rfl (by kernel_rfl) (by kernel_rfl) (by kernel_rfl) (fun _ _ _ h => h) (by rfl) hS ?_ ?_
  rotate_left
  · (intro wz hSw; clear hSw; go_simp; try with_reducible rfl)
  try simp only [Act.put, List.setIfInBounds_toArray, List.set_cons_zero, List.set_cons_succ]
  refine takeH 28 (v := ?_) rfl (by kernel_rfl) (by kernel_rfl) (by kernel_rfl) (fun _ _ _ h => h) (by rfl) hS ?_ ?_
  rotate_left
  · (intro wz hSw; clear hSw; go_simp; try with_reducible rfl)
  try simp only [Act.put, List.setIfInBounds_toArray, List.set_cons_zero, List.set_cons_succ]
  refine takeH 30 (v := ?_) rfl (by kernel_rfl) (by kernel_rfl) (by kernel_rfl) (fun _ _ _ h => h) (by rfl) hS ?_ ?_
  rotate_left
  · (intro wz hSw; clear hSw; go_simp; try with_reducible rfl)
  try simp only [Act.put, List.setIfInBounds_toArray, List.set_cons_zero, List.set_cons_succ]
  refine callH 29 rfl (by kernel_rfl) (fun K hK => ?_)
  go_simp
  go_wp2_with (go_at_call 18; refine (hcDI.out _ hS).mono ?_; rintro e U9 ⟨rfl, hB⟩)
  refine hK.out _ _ (hS.new hB) (fun hSn => ?_)
  clear hK K hS
  have hS := hSn
  clear hSn
  refine callH 31 rfl (by kernel_rfl) (fun K hK => ?_)
  go_simp
  go_wp2_with (go_at_call 18; refine (hcDT.out _ hS).mono ?_; rintro e U10 ⟨rfl, hB⟩)
  refine hK.out _ _ (hS.new hB) (fun hSn => ?_)
  clear hK K hS
  have hS := hSn
  clear hSn
  refine takeH 32 (v := .int .i64 (1 + (dm : Int))) rfl (by kernel_rfl) (by kernel_rfl) (by kernel_rfl) (fun _ _ _ h => h) (by rfl) hS ?_ ?_
  · (intro wz hSw; clear hSw; have zz := i64_id (x := 1 + (dm : Int)) (by omega) (by omega); go_simp)
  try simp only [Act.put, List.setIfInBounds_toArray, List.set_cons_zero, List.set_cons_succ]
  refine takeH 33 (v := .bool false) rfl (by kernel_rfl) (by kernel_rfl) (by kernel_rfl) (fun _ _ _ h => h) (by rfl) hS ?_ ?_
  · (intro wz hSw; clear hSw; go_simp)
  try simp only [Act.put, List.setIfInBounds_toArray, List.set_cons_zero, List.set_cons_succ]
  refine takeH 34 (v := ?_) rfl (by kernel_rfl) (by kernel_rfl) (by kernel_rfl) (fun _ _ _ h => h) (by rfl) hS ?_ ?_
  rotate_left
  · (intro wz hSw; clear hSw; go_simp; try with_reducible rfl)
  try simp only [Act.put, List.setIfInBounds_toArray, List.set_cons_zero, List.set_cons_succ]
  refine takeH 35 (v := ?_) rfl (by kernel_rfl) (by kernel_rfl) (by kernel_rfl) (fun _ _ _ h => h) (by rfl) hS ?_ ?_
  rotate_left
  · (intro wz hSw; clear hSw; go_simp; try with_reducible rfl)
  try simp only [Act.put, List.setIfInBounds_toArray, List.set_cons_zero, List.set_cons_succ]
  refine takeH 36 (v := ?_) rfl (by kernel_rfl) (by kernel_rfl) (by kernel_rfl) (fun _ _ _ h => h) (by rfl) hS ?_ ?_
  rotate_left
  · (intro wz hSw; clear hSw; go_simp; try with_reducible rfl)
  try simp only [Act.put, List.setIfInBounds_toArray, List.set_cons_zero, List.set_cons_succ]
  refine takeH 38 (v := ?_) rfl (by kernel_rfl) (by kernel_rfl) (by kernel_rfl) (fun _ _ _ h => h) (by rfl) hS ?_ ?_
  rotate_left
  · (intro wz hSw; clear hSw; go_simp; try with_reducible rfl)
  try simp only [Act.put, List.setIfInBounds_toArray, List.set_cons_zero, List.set_cons_succ]
  refine callH 37 rfl (by kernel_rfl) (fun K hK => ?_)
  go_simp
  go_wp2_with (go_at_call 20; refine (hcCI.out _ hS).mono ?_; rintro e Y1 ⟨⟨v1, rfl, hv1⟩, hB⟩)
  obtain ⟨N1, k1, rfl⟩ := own_form hv1
  refine hK.out _ _ (hS.new hB) (fun hSn => ?_)
  clear hK K hS
  have hS := hSn
  clear hSn
  refine callH 39 rfl (by kernel_rfl) (fun K hK => ?_)
  go_simp
  go_wp2_with (go_at_call 20; refine (hcCT.out _ hS).mono ?_; rintro e Y2 ⟨⟨v2, rfl, hv2⟩, hB⟩)
  obtain ⟨N2, k2, rfl⟩ := own_form hv2
  have hq1 := Reads.of_own (own_only hv1 (only_of_below [] hB) (by simp))
  have hce := equalStr N1 N2 k1 k2 _ _ _ _ Y2 hq1 (Reads.of_own hv2) (by have := hnl.out; omega) true (by simp)
  replace hce := Lib.hid hce
  clear hq1 hv1 hv2
  refine hK.out _ _ (hS.new hB) (fun hSn => ?_)
  clear hK K hS
  have hS := hSn
  clear hSn
  refine callH 40 rfl (by kernel_rfl) (fun K hK => ?_)
  go_simp
  go_wp2_with (go_at_call 19; refine hce.out.mono ?_; rintro e Y3 ⟨rfl, hB⟩)
  clear hce
  refine hK.out _ _ (hS.new hB) (fun hSn => ?_)
  clear hK K hS
  have hS := hSn
  clear hSn
  refine takeH 41 (v := ?_) rfl (by kernel_rfl) (by kernel_rfl) (by kernel_rfl) (fun _ _ _ h => h) (by rfl) hS ?_ ?_
  rotate_left
  · (intro wz hSw; clear hSw; go_simp; try with_reducible rfl)
  try simp only [Act.put, List.setIfInBounds_toArray, List.set_cons_zero, List.set_cons_succ]
  refine takeH 42 (v := ?_) rfl (by kernel_rfl) (by kernel_rfl) (by kernel_rfl) (fun _ _ _ h => h) (by rfl) hS ?_ ?_
  rotate_left
  · (intro wz hSw; clear hSw; go_simp; try with_reducible rfl)
  try simp only [Act.put, List.setIfInBounds_toArray, List.set_cons_zero, List.set_cons_succ]
  refine wpAnyH_done (by kernel_rfl) ?_ _
  have hB := hS.be
  have ya := hS.ba
  have yb := hS.bb
  have PA := hS.pa
  have PB := hS.pb
  rename World => W8
  clear hS hcA hcB hcR hcT hcI hcDA hcDB hcDT hcDI hcCT hcCI hlen hsb hsl hda hdb hdT hdI hcl hci hnl hmx' hdm hmb za1 zb1 zr1 hza hzb hzr
  have lga := ya.lt
  have lgb := yb.lt
  have hra := cs_inv PA ya
  have hrb := cs_req PB yb
  have hia := PA.own.inv.ok
  have hrbk := PB.own.req.ok
  obtain ⟨px, hpx⟩ : ∃ x, x = LA.inv := ⟨_, rfl⟩
  obtain ⟨py, hpy⟩ : ∃ x, x = LB.req := ⟨_, rfl⟩
  have spx : px.sz ≤ 10000 := by rw [hpx]; have := szs1.out; omega
  have spy : py.sz ≤ 10000 := by rw [hpy]; have := szs2.out; omega
  rw [← hpx] at hra hia
  rw [← hpy] at hrb hrbk
  have ya' := Lib.hid ya
  have yb' := Lib.hid yb
  have PA' := Lib.hid PA
  have PB' := Lib.hid PB
  have hB' := Lib.hid hB
  replace hpx := Lib.hid hpx
  replace hpy := Lib.hid hpy
  replace hia := Lib.hid hia
  replace hrbk := Lib.hid hrbk
  replace spx := Lib.hid spx
  replace spy := Lib.hid spy
  clear ya yb PA PB hB
  obtain ⟨ux, hux⟩ : ∃ u, u = px := ⟨_, rfl⟩
  obtain ⟨uy, huy⟩ : ∃ u, u = py := ⟨_, rfl⟩
  replace hux := Lib.hid hux
  replace huy := Lib.hid huy
  obtain ⟨⟨xk, xo, xv, xw, xn⟩, ⟨xA, xc⟩, xs⟩ := px
  obtain ⟨⟨yk, yo, yv, yw, yn⟩, ⟨yA, yc⟩, ys⟩ := py
  have hra' : W8.rangeAt ga 16 [.int .u8 xk, .int .u8 xo, .int .u32 xv, .int .i64 xw, .string xn, .slice xA xs.length xc] := hra
  have hrb' : W8.rangeAt gb 6 [.int .u8 yk, .int .u8 yo, .int .u32 yv, .int .i64 yw, .string yn, .slice yA ys.length yc] := hrb
  clear hra hrb
  have hcb := bin_ok 8 (.int .u8 xk) (.int .u8 xo) (.int .u32 xv) (.int .i64 xw) (.string xn) (.slice xA xs.length xc) (.int .u8 yk) (.int .u8 yo) (.int .u32 yv) (.int .i64 yw) (.string yn) (.slice yA ys.length yc) (by simp [Value.oneCell']) (by simp [Value.oneCell']) W8
  replace hcb := Lib.hid hcb
  try dsimp only
  go_wp2_with (first
    | (refine wpList_load_mid rfl 30 (.tmp 85) rfl ga 16 rfl [.int .u8 xk, .int .u8 xo, .int .u32 xv, .int .i64 xw, .string xn, .slice xA xs.length xc] _ hra' Try.underlying30 rfl (by kernel_rfl) ?_; refine Shut.out ?_))
  refine shut_mk ?_
  go_wp2_with (first
    | (refine wpList_load_mid rfl 30 (.tmp 87) rfl gb 6 rfl [.int .u8 yk, .int .u8 yo, .int .u32 yv, .int .i64 yw, .string yn, .slice yA ys.length yc] _ hrb' Try.underlying30 rfl (by kernel_rfl) ?_; refine Shut.out ?_))
  refine shut_mk ?_
  go_wp2_with fail
  refine hcb.out.mono ?_
  rintro e W9 ⟨gy, rfl, hby, hgy, hB9⟩
  obtain ⟨E0, hE0⟩ : ∃ e : Ex Loc, e = .mk ⟨6, 8, 0, 0, ⟨#[]⟩⟩ ⟨some ⟨gy, 0, none⟩, 2⟩ [ux, uy] := ⟨_, rfl⟩
  have hEc : E0.cells eT = [.int .u8 6, .int .u8 8, .int .u32 0, .int .i64 0, .string ⟨#[]⟩, .slice (some ⟨gy, 0, none⟩) 2 2] := by rw [hE0]; rfl
  have hEo : E0.ok eT W9 := by
    rw [hE0]
    refine ⟨lex_two' hby (by rw [hux.out, huy.out]; rfl), ?_, ?_, trivial⟩
    · rw [hux.out]; exact hia.out.below hB9
    · rw [huy.out]; exact hrbk.out.below hB9
  have hEn : namesE E0 = (namesE LB.req).foldl withL (namesE LA.inv) := by rw [hE0, namesE_bin, hux.out, huy.out, hpx.out, hpy.out]
  have hEs : E0.sz = 1 + LA.inv.sz + LB.req.sz := by
    rw [hE0, ← hpx.out, ← hpy.out, hux.out, huy.out]
    simp only [Ex.sz, szs]
    omega
  have six : LA.inv.sz ≤ 10000 := by rw [← hpx.out]; exact spx.out
  have siy : LB.req.sz ≤ 10000 := by rw [← hpy.out]; exact spy.out
  have siz : LA.inv.sz + LB.req.sz + 1 ≤ 20000 := by have := szs1.out; have := szs2.out; omega
  clear hE0 hux huy hpx hpy hia hrbk spx spy hcb hra' hrb' lga lgb hgy hby
  obtain ⟨ge, hge⟩ : ∃ g, g = W9.heap.size := ⟨_, rfl⟩
  have hBx := (Below.refl _ W9).alloc (Nat.le_refl _) (.cells #[.int .u8 6, .int .u8 8, .int .u32 0, .int .i64 0, .string ⟨#[]⟩, .slice (some ⟨gy, 0, none⟩) 2 2] 30)
  have ye : Blk (W9.alloc (.cells #[.int .u8 6, .int .u8 8, .int .u32 0, .int .i64 0, .string ⟨#[]⟩, .slice (some ⟨gy, 0, none⟩) 2 2] 30)) ge 30 (E0.cells eT).toArray := by rw [hge, hEc]; exact Blk.new W9 30 _
  have hB2 := hBx
  have hB3 := below_and hB9 hB2
  have hS0 : SV w ga gb ge LA LB ca cb E0 (W9.alloc (.cells #[.int .u8 6, .int .u8 8, .int .u32 0, .int .i64 0, .string ⟨#[]⟩, .slice (some ⟨gy, 0, none⟩) 2 2] 30)) := ⟨ya'.out.below hB3 ya'.out.lt, yb'.out.below hB3 yb'.out.lt, ye, PA'.out.new hB3, PB'.out.new hB3, hEo.below hB2, below_and hB'.out hB3⟩
  have hge' := Lib.hid hge
  replace hS0 := Lib.hid hS0
  replace hEc := Lib.hid hEc
  replace hEn := Lib.hid hEn
  replace hEs := Lib.hid hEs
  replace six := Lib.hid six
  replace siy := Lib.hid siy
  replace siz := Lib.hid siz
  clear hge hBx hB2 ye hB3 hB9 ya' yb' PA' PB' hB' hEo
  go_upto_region 10 with (fail)
  rw [← hge'.out]
  have hS := hS0.out
  clear hS0
  generalize W9.alloc (.cells #[.int .u8 6, .int .u8 8, .int .u32 0, .int .i64 0, .string ⟨#[]⟩, .slice (some ⟨gy, 0, none⟩) 2 2] 30) = W10 at *
  clear hge'
  have hra := cs_inv hS.pa hS.ba
  have hc1 := names_ok LA.inv W10 hS.pa.own.inv.ok (by have := six.out; omega)
  obtain ⟨nA, hnA⟩ : ∃ l, l = namesE LA.inv := ⟨_, rfl⟩
  obtain ⟨nB, hnB⟩ : ∃ l, l = namesE LB.req := ⟨_, rfl⟩
  have lA : nA.length ≤ 10000 := by rw [hnA]; exact namesE_len _ six.out
  have lB : nB.length ≤ 10000 := by rw [hnB]; exact namesE_len _ siy.out
  rw [← hnA] at hc1
  have hEn' : namesE E0 = nB.foldl withL nA := by rw [hEn.out, hnA, hnB]
  replace hS := Lib.hid hS
  replace hc1 := Lib.hid hc1
  replace hnA := Lib.hid hnA
  replace hnB := Lib.hid hnB
  replace hEn' := Lib.hid hEn'
  go_wp2_with (refine wpList_load_mid rfl 30 (.tmp 90) rfl ga 16 rfl (LA.inv.cells eT) _ hra Try.underlying30 rfl (by rw [Ex.cells_len]; kernel_rfl) ?_; refine Shut.out ?_)
  refine shut_mk ?_
  go_wp2_with fail
  refine hc1.out.mono ?_
  rintro e W11 ⟨⟨v1, rfl, hv1⟩, hB11⟩
  obtain ⟨N3, k3, rfl⟩ := own_form hv1
  have hS11 := hS.out.new hB11
  have hrb := cs_req hS11.pb hS11.bb
  have hc2 := names_ok LB.req W11 hS11.pb.own.req.ok (by have := siy.out; omega)
  rw [← hnB.out] at hc2
  replace hv1 := Lib.hid hv1
  replace hB11 := Lib.hid hB11
  replace hc2 := Lib.hid hc2
  clear hra hc1 hS11
  go_upto_region 11 with (fail)
  go_wp2_with (refine wpList_load_mid rfl 30 (.tmp 93) rfl gb 6 rfl (LB.req.cells eT) _ hrb Try.underlying30 rfl (by rw [Ex.cells_len]; kernel_rfl) ?_; refine Shut.out ?_)
  refine shut_mk ?_
  go_wp2_with fail
  refine hc2.out.mono ?_
  rintro e W12 ⟨⟨v2, rfl, hv2⟩, hB12⟩
  obtain ⟨N4, k4, rfl⟩ := own_form hv2
  obtain ⟨nb, hnb⟩ : ∃ n, n = nB.length := ⟨_, rfl⟩
  rw [← hnb] at hv2 ⊢
  have hB1012 := below_and hB11.out hB12
  have hv1' := own_only hv1.out (only_of_below [] hB12) (by simp)
  have hdis : ∀ b, (Value.slice N3 nA.length k3).ownBlock = some b → (Value.slice N4 nb k4).ownBlock ≠ some b := fun b h1 h2 => by
    have := (hv1.out.lt b h1).2
    have := (hv2.lt b h2).1
    omega
  have hb0 : (nb : Int) ≤ 10000 := by omega
  have hs12 := hB1012.size
  obtain ⟨i0, hi, hz0, hz1, hz2⟩ := info_parts infoStr
  replace hv2 := Lib.hid hv2
  replace hv1' := Lib.hid hv1'
  replace hB1012 := Lib.hid hB1012
  replace hdis := Lib.hid hdis
  replace hnb := Lib.hid hnb
  replace hi := Lib.hid hi
  replace hz0 := Lib.hid hz0
  replace hz1 := Lib.hid hz1
  replace hz2 := Lib.hid hz2
  have h1110 := Lib.hid hB11.out.size
  replace lA := Lib.hid lA
  replace lB := Lib.hid lB
  replace hs12 := Lib.hid hs12
  clear hrb hc2 hv1 hB12 hB11
  go_wp2_with fail
  go_loopw [11, 97] (fun v11 v97 wr => ∃ (k : Nat) (l : List ByteArray), v97 = .int .i64 k ∧ k ≤ nb ∧ l = (nB.take k).foldl withL nA ∧ wr.ownsRow W10.heap.size 9 1 v11 l.length (strs l) ∧ (∀ b, v11.ownBlock = some b → (Value.slice N4 nb k4).ownBlock ≠ some b) ∧ wr.ownsRow W11.heap.size 9 1 (.slice N4 nb k4) nb (strs nB) ∧ Below W10.heap.size W10 wr) (fun _ v97 _ => nb - (intOf v97).toNat)
  case atStart => exact ⟨0, nA, rfl, Nat.zero_le _, rfl, hv1'.out, hdis.out, hv2.out, hB1012.out⟩
  case round =>
    obtain ⟨k, l, rfl, hk, hl, hown, hds, hown4, hB⟩ := hrel
    clear hv1' hdis hv2 hB1012
    have k0 : 0 ≤ (k : Int) := by omega
    obtain ⟨A, c, rfl⟩ := own_form hown
    obtain ⟨m, hm⟩ : ∃ m, m = l.length := ⟨_, rfl⟩
    rw [← hm] at hown hds ⊢
    have hlm : m ≤ 20000 := by
      have h1 := foldW_len (nB.take k) nA
      rw [← hl] at h1
      have h2 : (nB.take k).length ≤ nB.length := by simp; omega
      have := lA.out
      have := lB.out
      omega
    by_cases hlt : k < nb
    · have hx : nB[k]? = some (nB[k]'(by have := hnb.out; omega)) := List.getElem?_eq_getElem (by have := hnb.out; omega)
      generalize nB[k]'(by have := hnb.out; omega) = s at hx
      have hnext := foldW_take hx nA
      rw [← hl] at hnext
      obtain ⟨ad, hA, _, hcx, hab⟩ := Reads.str (Reads.of_own hown4) hx
      subst hA
      have k1' : (k : Int) < (nb : Int) := by omega
      have hc := contains_ok A m c wr.heap.size l s wr ((Reads.of_own hown)) (by omega)
      obtain ⟨q, hq⟩ : ∃ q, hasL l s = q := ⟨_, rfl⟩
      rw [hq] at hc
      replace hc := Lib.hid hc
      replace hx := Lib.hid hx
      replace hl := Lib.hid hl
      replace hown := Lib.hid hown
      replace hown4 := Lib.hid hown4
      replace hds := Lib.hid hds
      replace hB := Lib.hid hB
      replace hm := Lib.hid hm
      cases q
      · have hw : withL l s = l ++ [s] := by unfold withL; rw [hq]; rfl
        rw [hw] at hnext
        replace hnext := Lib.hid hnext
        clear hw hq
        have hbn := Blk.new wr 9 #[.string s]
        have hr : Reads (wr.alloc (.cells #[.string s] 9)) (wr.heap.size + 1) 1 (some ⟨wr.heap.size, 0, none⟩) 1 [.string s] :=
          ⟨rfl, fun _ => ⟨_, rfl, by simp, fun j u hu => by
            cases j with
            | zero => simp at hu; subst hu; exact hbn.cell 0
            | succ j => simp at hu⟩⟩
        have hB2 := hB.out.alloc hB.out.size (.cells #[.string s] 9)
        have hw10 := hB.out.size
        have hown2 := hown.out.alloc (.cells #[.string s] 9)
        have hown42 := hown4.out.alloc (.cells #[.string s] 9)
        replace hB2 := Lib.hid hB2
        replace hown42 := Lib.hid hown42
        replace hw10 := Lib.hid hw10
        clear hbn
        go_wp2_with (first
          | (go_at_call 23; with_reducible refine hc.out.mono ?_; rintro e w' ⟨rfl, rfl⟩)
          | (at_builtin; refine wpList_append_any _ rfl (.tmp 105) (.tmp 107) 53 rfl W10.heap.size 9 i0 _ 1 16 Try.underlying53 hi.out hz0.out hz1.out hz2.out rfl (by omega) (.slice A m c) m (strs l) rfl hown2 (wr.heap.size + 1) (some ⟨wr.heap.size, 0, none⟩) 1 1 [.string s] rfl hr (by simp [Value.oneCell']) (by simp only [maxLen]; omega) (by omega) (by have := hw10.out; simp; omega) ?_; intro v1 w1 hown1 hg1 hv1; obtain ⟨A9, c9, rfl⟩ := own_form hown1; replace hown1 := Lib.hid hown1; replace hg1 := Lib.hid hg1; replace hv1 := Lib.hid hv1))
        go_roundw
        case rel =>
          have e1 : m + 1 = (l ++ [s]).length := by have := hm.out; simp; omega
          refine ⟨k + 1, l ++ [s], by go_num, by omega, hnext.out.symm, own_cast hown1.out e1 (by simp [strs]), ?_, ?_, ?_⟩
          · intro b hb h2
            rcases hv1.out with h | h
            · exact hds.out b (by rw [← h]; exact hb) h2
            · rw [h] at hb
              injection hb with hb
              have := (hown4.out.lt b h2).2
              simp at hb
              omega
          · exact own_same hown42.out fun b hb => hg1.out.block b (hown42.out.lt b hb).2 fun e => hds.out b e.symm hb
          · exact hB2.out.grown hg1.out (by have := hw10.out; simp; omega) (fun b e => (hown.out.lt b e).1)
        case measure => simp [intOf]; omega
      · have hw : withL l s = l := by unfold withL; rw [hq]; rfl
        rw [hw] at hnext
        replace hnext := Lib.hid hnext
        clear hw hq
        go_wp2_with (go_at_call 23; with_reducible refine hc.out.mono ?_; rintro e w' ⟨rfl, rfl⟩)
        go_roundw
        case rel => exact ⟨k + 1, l, by go_num, by omega, hnext.out.symm, by rw [← hm.out]; exact hown.out, hds.out, hown4.out, hB.out⟩
        case measure => simp [intOf]; omega
    · obtain rfl : nb = k := by omega
      have hS0 : SN w ga gb ge LA LB ca cb E0 A m c l wr := ⟨hS.out.new hB, Reads.of_own hown⟩
      have hlE : l = namesE E0 := by
        rw [hl, List.take_of_length_le (by have := hnb.out; omega), hEn'.out]
      clear hown hown4 hds hB hl hk k0 hlt
      obtain ⟨zi, hzi⟩ : ∃ n, n = LA.inv.sz := ⟨_, rfl⟩
      obtain ⟨zq, hzq⟩ : ∃ n, n = LB.req.sz := ⟨_, rfl⟩
      have zi1 : (zi : Int) ≤ 10000 := by have := six.out; omega
      have zq1 : (zq : Int) ≤ 10000 := by have := siy.out; omega
      have hz3 : 1 + zi + zq ≤ 20000 := by have := siz.out; omega
      have hE1 : E0.sz = 1 + zi + zq := by rw [hEs.out, hzi, hzq]
      have hd1 : ∀ W, SN w ga gb ge LA LB ca cb E0 A m c l W → Calls Try.prog 14 #[aggX E0] W fun x w' => x = .returned (.int .i64 (1 + zi + zq : Nat)) ∧ Below W.heap.size W w' := fun W h => sizeE E0 W h.e.xo _ (by rw [if_pos (by omega)]; exact hE1.symm)
      have hd2 : ∀ W, SN w ga gb ge LA LB ca cb E0 A m c l W → Calls Try.prog 14 #[aggX LA.inv] W fun x w' => x = .returned (.int .i64 (zi : Nat)) ∧ Below W.heap.size W w' := fun W h => sizeE LA.inv W h.e.pa.own.inv.ok _ (by rw [if_pos (by omega)]; exact hzi)
      have hd3 : ∀ W, SN w ga gb ge LA LB ca cb E0 A m c l W → Calls Try.prog 14 #[aggX LB.req] W fun x w' => x = .returned (.int .i64 (zq : Nat)) ∧ Below W.heap.size W w' := fun W h => sizeE LB.req W h.e.pb.own.req.ok _ (by rw [if_pos (by omega)]; exact hzq)
      have hd4 : ∀ W, SN w ga gb ge LA LB ca cb E0 A m c l W → Calls Try.prog 22 #[aggX E0] W fun r w' => (∃ v, r = .returned v ∧ w'.ownsRow W.heap.size 9 1 v m (strs l)) ∧ Below W.heap.size W w' := fun W h => by rw [hm, hlE]; exact names_ok E0 W h.e.xo (by omega)
      replace hS0 := Lib.hid hS0
      replace hd1 := Lib.hid hd1
      replace hd2 := Lib.hid hd2
      replace hd3 := Lib.hid hd3
      replace hd4 := Lib.hid hd4
      replace hzi := Lib.hid hzi
      replace hzq := Lib.hid hzq
      replace hE1 := Lib.hid hE1
      replace hlE := Lib.hid hlE
      replace hm := Lib.hid hm
      clear hz3
      go_upto_region 17 with (fail)
      have hS := hS0.out.new ((Below.refl _ wr).drew)
      clear hS0
      refine wp_region_held (S := SN w ga gb ge LA LB ca cb E0 A m c l) (by kernel_rfl) ?_
      change wpAnyH _ _ _ _ _ _ _ _ (World.drew _)
      refine takeH 2 (v := ?_) rfl (by kernel_rfl) (by kernel_rfl) (by kernel_rfl) (fun _ _ _ h => h) (by rfl) hS ?_ ?_
      rotate_left
      · (intro wz hSw; clear hSw; go_simp; try with_reducible rfl)
      try simp only [Act.put, List.setIfInBounds_toArray, List.set_cons_zero, List.set_cons_succ]
      refine takeH 6 (v := ?_) rfl (by kernel_rfl) (by kernel_rfl) (by kernel_rfl) (fun _ _ _ h => h) (by rfl) hS ?_ ?_
      rotate_left
      · (intro wz hSw; clear hSw; go_simp; try with_reducible rfl)
      try simp only [Act.put, List.setIfInBounds_toArray, List.set_cons_zero, List.set_cons_succ]
      refine takeH 0 rfl (by kernel_rfl) (by kernel_rfl) (by kernel_rfl) (fun _ _ _ h => h) (by rfl) hS (load_expr (.tmp 10) rfl ge 0 rfl E0 (fun w h => h.e.range)) ?_
      try simp only [Act.put, List.setIfInBounds_toArray, List.set_cons_zero, List.set_cons_succ]
      refine takeH 3 rfl (by kernel_rfl) (by kernel_rfl) (by kernel_rfl) (fun _ _ _ h => h) (by rfl) hS (load_expr (.tmp 112) rfl ga 16 rfl LA.inv (fun w h => cs_inv h.e.pa h.e.ba)) ?_
      try simp only [Act.put, List.setIfInBounds_toArray, List.set_cons_zero, List.set_cons_succ]
      refine takeH 7 rfl (by kernel_rfl) (by kernel_rfl) (by kernel_rfl) (fun _ _ _ h => h) (by rfl) hS (load_expr (.tmp 116) rfl gb 6 rfl LB.req (fun w h => cs_req h.e.pb h.e.bb)) ?_
      try simp only [Act.put, List.setIfInBounds_toArray, List.set_cons_zero, List.set_cons_succ]
      refine callH 1 rfl (by kernel_rfl) (fun K hK => ?_)
      go_simp
      go_wp2_with (go_at_call 14; refine (hd1.out _ hS).mono ?_; rintro e U41 ⟨rfl, hB⟩)
      refine hK.out _ _ (hS.new hB) (fun hSn => ?_)
      clear hK K hS
      have hS := hSn
      clear hSn
      refine callH 4 rfl (by kernel_rfl) (fun K hK => ?_)
      go_simp
      go_wp2_with (go_at_call 14; refine (hd2.out _ hS).mono ?_; rintro e U42 ⟨rfl, hB⟩)
      refine hK.out _ _ (hS.new hB) (fun hSn => ?_)
      clear hK K hS
      have hS := hSn
      clear hSn
      refine takeH 5 (v := .int .i64 (1 + (zi : Int))) rfl (by kernel_rfl) (by kernel_rfl) (by kernel_rfl) (fun _ _ _ h => h) (by rfl) hS ?_ ?_
      · (intro wz hSw; clear hSw; have zz := i64_id (x := 1 + (zi : Int)) (by omega) (by omega); go_simp)
      try simp only [Act.put, List.setIfInBounds_toArray, List.set_cons_zero, List.set_cons_succ]
      refine callH 8 rfl (by kernel_rfl) (fun K hK => ?_)
      go_simp
      go_wp2_with (go_at_call 14; refine (hd3.out _ hS).mono ?_; rintro e U43 ⟨rfl, hB⟩)
      refine hK.out _ _ (hS.new hB) (fun hSn => ?_)
      clear hK K hS
      have hS := hSn
      clear hSn
      refine takeH 9 (v := .int .i64 (1 + (zi : Int) + zq)) rfl (by kernel_rfl) (by kernel_rfl) (by kernel_rfl) (fun _ _ _ h => h) (by rfl) hS ?_ ?_
      · (intro wz hSw; clear hSw; have zz := i64_id (x := 1 + (zi : Int) + zq) (by omega) (by omega); go_simp)
      try simp only [Act.put, List.setIfInBounds_toArray, List.set_cons_zero, List.set_cons_succ]
      refine takeH 10 (v := .bool true) rfl (by kernel_rfl) (by kernel_rfl) (by kernel_rfl) (fun _ _ _ h => h) (by rfl) hS ?_ ?_
      · (intro wz hSw; clear hSw; go_simp)
      try simp only [Act.put, List.setIfInBounds_toArray, List.set_cons_zero, List.set_cons_succ]
      refine takeH 11 (v := ?_) rfl (by kernel_rfl) (by kernel_rfl) (by kernel_rfl) (fun _ _ _ h => h) (by rfl) hS ?_ ?_
      rotate_left
      · (intro wz hSw; clear hSw; go_simp; try with_reducible rfl)
      try simp only [Act.put, List.setIfInBounds_toArray, List.set_cons_zero, List.set_cons_succ]
      refine takeH 14 (v := ?_) rfl (by kernel_rfl) (by kernel_rfl) (by kernel_rfl) (fun _ _ _ h => h) (by rfl) hS ?_ ?_
      rotate_left
      · (intro wz hSw; clear hSw; go_simp; try with_reducible rfl)
      try simp only [Act.put, List.setIfInBounds_toArray, List.set_cons_zero, List.set_cons_succ]
      refine takeH 12 rfl (by kernel_rfl) (by kernel_rfl) (by kernel_rfl) (fun _ _ _ h => h) (by rfl) hS (load_expr (.tmp 10) rfl ge 0 rfl E0 (fun w h => h.e.range)) ?_
      try simp only [Act.put, List.setIfInBounds_toArray, List.set_cons_zero, List.set_cons_succ]
      refine callH 13 rfl (by kernel_rfl) (fun K hK => ?_)
      go_simp
      go_wp2_with (go_at_call 22; refine (hd4.out _ hS).mono ?_; rintro e Z1 ⟨⟨v5, rfl, hv5⟩, hB⟩)
      obtain ⟨N5, k5, rfl⟩ := own_form hv5
      have hce := equalStr N5 A k5 c _ _ _ _ Z1 (Reads.of_own hv5) ((hS.new hB).rd) (by omega) true (by simp)
      replace hce := Lib.hid hce
      clear hv5
      refine hK.out _ _ (hS.new hB) (fun hSn => ?_)
      clear hK K hS
      have hS := hSn
      clear hSn
      refine callH 15 rfl (by kernel_rfl) (fun K hK => ?_)
      go_simp
      go_wp2_with (go_at_call 19; refine hce.out.mono ?_; rintro e Z2 ⟨rfl, hB⟩)
      clear hce
      refine hK.out _ _ (hS.new hB) (fun hSn => ?_)
      clear hK K hS
      have hS := hSn
      clear hSn
      refine takeH 16 (v := ?_) rfl (by kernel_rfl) (by kernel_rfl) (by kernel_rfl) (fun _ _ _ h => h) (by rfl) hS ?_ ?_
      rotate_left
      · (intro wz hSw; clear hSw; go_simp; try with_reducible rfl)
      try simp only [Act.put, List.setIfInBounds_toArray, List.set_cons_zero, List.set_cons_succ]
      refine takeH 17 (v := ?_) rfl (by kernel_rfl) (by kernel_rfl) (by kernel_rfl) (fun _ _ _ h => h) (by rfl) hS ?_ ?_
      rotate_left
      · (intro wz hSw; clear hSw; go_simp; try with_reducible rfl)
      try simp only [Act.put, List.setIfInBounds_toArray, List.set_cons_zero, List.set_cons_succ]
      refine wpAnyH_done (by kernel_rfl) ?_ _
      replace hS := Lib.hid hS
      go_wp2_with fail
      go_ret
      exact ⟨rfl, hS.out.e.be⟩
end Go.Proofs.Ytnldbplphgfpeaa
