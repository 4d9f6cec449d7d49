/- The law on names changed. -/
import Derived.Test.YtnldbplphgfpeaaTLd
import Derived.Test.YtnldbplphgfpeaaTRp
import Derived.Test.YtnldbplphgfpeaaTEq
namespace Go.Proofs.Ytnldbplphgfpeaa
open Go Go.RowKit Go.Shelf
set_option linter.unusedVariables false
set_option linter.unusedSimpArgs false
set_option maxHeartbeats 8000000
/-- What stays while names are changed in an expression. -/
structure CE (w : World) (ga ge : Nat) (LA : Pg Loc) (ca : Array Value) (L : Ex Loc) (W : World) : Prop where
  ba : Blk W ga 35 ca
  bx : Blk W ge 30 (L.cells eT).toArray
  pa : Prg W w.heap.size LA ca
  lo : L.ok eT W
  be : Below w.heap.size w W
theorem CE.new {w : World} {ga ge : Nat} {LA : Pg Loc} {ca : Array Value} {L : Ex Loc} {W W' : World} (h : CE w ga ge LA ca L W) (hb : Below W.heap.size W W') : CE w ga ge LA ca L W' := ⟨h.ba.below hb h.ba.lt, h.bx.below hb h.bx.lt, h.pa.new hb, h.lo.below hb, below_and h.be hb⟩
theorem CE.range {w : World} {ga ge : Nat} {LA : Pg Loc} {ca : Array Value} {L : Ex Loc} {W : World} (h : CE w ga ge LA ca L W) : W.rangeAt ge 0 (L.cells eT) := by
  have := range_blk h.bx
  simpa using this
/-- And the names. -/
structure CF (w : World) (ga ge : Nat) (LA : Pg Loc) (ca : Array Value) (L : Ex Loc) (A1 A2 : Option Addr) (n c1 c2 : Nat) (ns ms : List ByteArray) (W : World) : Prop where
  e : CE w ga ge LA ca L W
  r1 : W.ownsRow w.heap.size 9 1 (.slice A1 n c1) n (strs ns)
  r2 : W.ownsRow w.heap.size 9 1 (.slice A2 n c2) n (strs ms)
theorem CF.new {w : World} {ga ge : Nat} {LA : Pg Loc} {ca : Array Value} {L : Ex Loc} {A1 A2 : Option Addr} {n c1 c2 : Nat} {ns ms : List ByteArray} {W W' : World} (h : CF w ga ge LA ca L A1 A2 n c1 c2 ns ms W) (hb : Below W.heap.size W W') : CF w ga ge LA ca L A1 A2 n c1 c2 ns ms W' :=
  ⟨h.e.new hb, own_only h.r1 (only_of_below [] hb) (by simp), own_only h.r2 (only_of_below [] hb) (by simp)⟩
theorem made_small {p : Pg Loc} {l : List Nat} (h : p.plain = madeM l) : smallS p.work ∧ smallS p.recov ∧ p.inv.small := by
  have := madeM_small l
  rw [← h] at this
  exact ⟨(smallS_plain _).1 this.1, (smallS_plain _).1 this.2.1, (Ex.small_plain _).1 this.2.2⟩
/-- What is told of one list of statements, its names changed and changed back. -/
theorem ren_facts {ls a b n : List (St Loc)} (fr : ByteArray) (hs : smallS ls) (ha : plainS a = renS (chg fr sNew) ls) (hb : plainS b = renS (chg sNew fr) a) (hn : plainS n = renS (chg sOther sNew) ls) :
    sameS b ls = true ∧ sameS n ls = true ∧ szS a = szS ls ∧ dpS a = dpS ls ∧ callsS a = callsS ls := by
  refine ⟨(sameS_iff _ _).2 ?_, (sameS_iff _ _).2 ?_, ?_, ?_, ?_⟩
  · rw [hb, ← renS_plain a, ha, renS_back (chg_back fr) ls hs]
  · rw [hn, renS_keep chg_other ls hs]
  · rw [← szS_plain a, ha, szS_ren]
  · rw [← dpS_plain a, ha, dpS_ren]
  · rw [← callsS_plain a, ha, callsS_ren]
theorem renE_facts {e a b : Ex Loc} (fr : ByteArray) (hs : e.small) (ha : a.plain = e.ren (chg fr sNew)) : a.sz = e.sz ∧ namesE a = (namesE e).map (chg fr sNew) ∧ (b.plain = a.ren (chg sNew fr) → b.same e = true) := by
  refine ⟨?_, ?_, fun hb => Ex.same_iff _ _ |>.2 ?_⟩
  · rw [← Ex.sz_plain a, ha, Ex.sz_ren]
  · rw [← namesE_plain a, ha, namesE_ren (chg_inj fr) e hs]
  · rw [hb, ← Ex.ren_plain a, ha, Ex.ren_back (chg_back fr) e hs]
set_option maxRecDepth 100000 in
theorem renames_ok (A1 : Option Addr) (n1 c1 : Nat) (bk : List Nat) (which : Nat) (hwh : which < 256) (w : World) (h1 : Byt w A1 n1 c1 bk) :
    Calls Try.prog 6 #[.slice A1 n1 c1, .int .u8 which] w fun e w' => e = .returned (.bool true) ∧ Below w.heap.size w w' := by
  have h1' := Lib.hid h1
  have wy : (which : Int) < 256 := by omega
  have wy0 : 0 ≤ (which : Int) := by omega
  clear h1
  go_enter Try.func6, Try.ntmps6
  go_wp2_with fail
  refine (awake_ok w).mono ?_
  rintro e W1 ⟨rfl, hB1⟩
  have hb1 := h1'.out.below hB1
  replace hB1 := Lib.hid hB1
  go_wp2_with fail
  refine (made_c hb1).mono ?_
  rintro e W2 ⟨LA, ca, rfl, pa, PA, hB2⟩
  have hB12 := below_and hB1.out hB2
  replace PA := PA.base_le (base' := w.heap.size) hB1.out.size
  have sa := PA.size
  have oa := PA.one
  replace pa := Lib.hid pa
  clear hb1 hB2
  obtain ⟨ga, hga⟩ : ∃ g, g = W2.heap.size := ⟨_, rfl⟩
  have hBx := (Below.refl _ W2).alloc (Nat.le_refl _) (.cells #[.int .i64 0, .int .i64 0, .slice none 0 0, .slice none 0 0, .slice none 0 0, .slice none 0 0, .int .u8 0, .int .u8 0, .int .u32 0, .int .i64 0, .string ⟨#[]⟩, .slice none 0 0, .slice none 0 0, .slice none 0 0, .slice none 0 0, .slice none 0 0, .int .u8 0, .int .u8 0, .int .u32 0, .int .i64 0, .string ⟨#[]⟩, .slice none 0 0] 35)
  have xa : Blk (W2.alloc (.cells #[.int .i64 0, .int .i64 0, .slice none 0 0, .slice none 0 0, .slice none 0 0, .slice none 0 0, .int .u8 0, .int .u8 0, .int .u32 0, .int .i64 0, .string ⟨#[]⟩, .slice none 0 0, .slice none 0 0, .slice none 0 0, .slice none 0 0, .slice none 0 0, .int .u8 0, .int .u8 0, .int .u32 0, .int .i64 0, .string ⟨#[]⟩, .slice none 0 0] 35)) ga 35 #[.int .i64 0, .int .i64 0, .slice none 0 0, .slice none 0 0, .slice none 0 0, .slice none 0 0, .int .u8 0, .int .u8 0, .int .u32 0, .int .i64 0, .string ⟨#[]⟩, .slice none 0 0, .slice none 0 0, .slice none 0 0, .slice none 0 0, .slice none 0 0, .int .u8 0, .int .u8 0, .int .u32 0, .int .i64 0, .string ⟨#[]⟩, .slice none 0 0] := by rw [hga]; exact Blk.new W2 35 #[.int .i64 0, .int .i64 0, .slice none 0 0, .slice none 0 0, .slice none 0 0, .slice none 0 0, .int .u8 0, .int .u8 0, .int .u32 0, .int .i64 0, .string ⟨#[]⟩, .slice none 0 0, .slice none 0 0, .slice none 0 0, .slice none 0 0, .slice none 0 0, .int .u8 0, .int .u8 0, .int .u32 0, .int .i64 0, .string ⟨#[]⟩, .slice none 0 0]
  have hO3 := only_setCells (b := ga) ca.toList 0 (W2.alloc (.cells #[.int .i64 0, .int .i64 0, .slice none 0 0, .slice none 0 0, .slice none 0 0, .slice none 0 0, .int .u8 0, .int .u8 0, .int .u32 0, .int .i64 0, .string ⟨#[]⟩, .slice none 0 0, .slice none 0 0, .slice none 0 0, .slice none 0 0, .slice none 0 0, .int .u8 0, .int .u8 0, .int .u32 0, .int .i64 0, .string ⟨#[]⟩, .slice none 0 0] 35))
  have hB23 : Below W2.heap.size W2 ((W2.alloc (.cells #[.int .i64 0, .int .i64 0, .slice none 0 0, .slice none 0 0, .slice none 0 0, .slice none 0 0, .int .u8 0, .int .u8 0, .int .u32 0, .int .i64 0, .string ⟨#[]⟩, .slice none 0 0, .slice none 0 0, .slice none 0 0, .slice none 0 0, .slice none 0 0, .int .u8 0, .int .u8 0, .int .u32 0, .int .i64 0, .string ⟨#[]⟩, .slice none 0 0] 35)).setCells ga 0 ca.toList) := hBx.trans (hO3.below (by simp) (by simp; omega))
  have ya := blk_put xa (by rw [sa]; rfl)
  have ta := there_blk_at xa (o := 0) (n := 22) (by decide)
  have PA3 := PA.new hB23
  have hB03 := below_and hB12 hB23
  have hga' := Lib.hid hga
  clear hga hBx xa hO3 hB23 PA hB12 hB1
  replace ya := Lib.hid ya
  replace PA3 := Lib.hid PA3
  replace hB03 := Lib.hid hB03
  go_wp2_with (refine wpList_store_at 35 (.tmp 5) (.tmp 20) W2.heap.size 0 ca rfl rfl (by rw [sa, ← hga'.out]; exact ta) (by rw [sa]; kernel_rfl) oa ?_; refine Shut.out ?_)
  refine shut_mk ?_
  try simp only [Act.put, List.setIfInBounds_toArray, List.set_cons_zero, List.set_cons_succ]
  rw [← hga'.out]
  have hyp := And.intro ya.out (And.intro PA3.out hB03.out)
  clear ya PA3 hB03 ta
  generalize (W2.alloc (.cells #[.int .i64 0, .int .i64 0, .slice none 0 0, .slice none 0 0, .slice none 0 0, .slice none 0 0, .int .u8 0, .int .u8 0, .int .u32 0, .int .i64 0, .string ⟨#[]⟩, .slice none 0 0, .slice none 0 0, .slice none 0 0, .slice none 0 0, .slice none 0 0, .int .u8 0, .int .u8 0, .int .u32 0, .int .i64 0, .string ⟨#[]⟩, .slice none 0 0] 35)).setCells ga 0 ca.toList = W3 at *
  obtain ⟨ya, PA, hB03⟩ := hyp
  clear hga'
  have qa := made_sz pa.out
  have lga := ya.lt
  have hm9 : (which : Int) % 9 = ((which % 9 : Nat) : Int) := by omega
  obtain ⟨m, hm⟩ : ∃ m, m = which % 9 := ⟨_, rfl⟩
  have hml : m < 9 := by omega
  rw [← hm] at hm9
  have m0 : 0 ≤ (m : Int) := by omega
  have m1 : (m : Int) < 9 := by omega
  replace hm := Lib.hid hm
  have hBy := (Below.refl _ W3).alloc (Nat.le_refl _) (.cells #[.string ⟨#[105]⟩, .string ⟨#[106]⟩, .string ⟨#[103]⟩, .string ⟨#[104]⟩, .string ⟨#[118]⟩, .string ⟨#[99]⟩, .string ⟨#[97]⟩, .string ⟨#[120]⟩, .string ⟨#[110, 111, 110, 101]⟩] 9)
  have hbs := Blk.new W3 9 #[.string ⟨#[105]⟩, .string ⟨#[106]⟩, .string ⟨#[103]⟩, .string ⟨#[104]⟩, .string ⟨#[118]⟩, .string ⟨#[99]⟩, .string ⟨#[97]⟩, .string ⟨#[120]⟩, .string ⟨#[110, 111, 110, 101]⟩]
  obtain ⟨gs, hgs⟩ : ∃ g, g = W3.heap.size := ⟨_, rfl⟩
  rw [← hgs] at hbs
  obtain ⟨fr, hfr⟩ : ∃ fr, (W3.alloc (.cells #[.string ⟨#[105]⟩, .string ⟨#[106]⟩, .string ⟨#[103]⟩, .string ⟨#[104]⟩, .string ⟨#[118]⟩, .string ⟨#[99]⟩, .string ⟨#[97]⟩, .string ⟨#[120]⟩, .string ⟨#[110, 111, 110, 101]⟩] 9)).cell? ⟨gs, m, none⟩ = some (.string fr) := by
    have hm' : m = 0 ∨ m = 1 ∨ m = 2 ∨ m = 3 ∨ m = 4 ∨ m = 5 ∨ m = 6 ∨ m = 7 ∨ m = 8 := by omega
    rcases hm' with rfl | rfl | rfl | rfl | rfl | rfl | rfl | rfl | rfl <;> exact ⟨_, hbs.cell _⟩
  have ya4 := ya.below hBy lga
  have PA4 := PA.new hBy
  have hB04 := below_and hB03 hBy
  have hgl := hbs.lt
  rw [hgs] at hfr hgl
  have hwhich := Lib.hid hm9
  have PA5 := Lib.hid PA4
  have hB05 := Lib.hid hB04
  have ya5 := Lib.hid ya4
  clear PA PA4 hB03 hB04 ya ya4 hBy hbs hgs lga
  go_upto_region 5 with (fail)
  generalize W3.alloc (.cells #[.string ⟨#[105]⟩, .string ⟨#[106]⟩, .string ⟨#[103]⟩, .string ⟨#[104]⟩, .string ⟨#[118]⟩, .string ⟨#[99]⟩, .string ⟨#[97]⟩, .string ⟨#[120]⟩, .string ⟨#[110, 111, 110, 101]⟩] 9) = W4 at *
  clear hfr hgl hm9 hwhich m0 m1
  have ya := ya5.out
  have PA := PA5.out
  clear ya5 PA5
  obtain ⟨_, _, _, _, _, _, k14, k15⟩ := cs_at PA
  have g14 := (ya.cell 14).trans k14
  have g15 := (ya.cell 15).trans k15
  have lga := ya.lt
  have sm := made_small pa.out
  have szA : LA.work.length ≤ 10000 ∧ szS LA.work ≤ 10000 ∧ szS LA.recov ≤ 10000 ∧ LA.inv.sz ≤ 10000 := by
    have h1 := szS_len LA.work
    simp only [Pg.sz] at qa
    omega
  replace sm := Lib.hid sm
  replace szA := Lib.hid szA
  have cLS : Nat := 0
  have hBz := (Below.refl _ W4).alloc (Nat.le_refl _) (.cells #[.slice LA.lw.A LA.work.length LA.lw.c, .slice LA.lr.A LA.recov.length LA.lr.c] 33)
  have hbl := Blk.new W4 33 #[.slice LA.lw.A LA.work.length LA.lw.c, .slice LA.lr.A LA.recov.length LA.lr.c]
  obtain ⟨gl, hgl⟩ : ∃ g, W4.heap.size = g := ⟨_, rfl⟩
  rw [hgl] at hbl
  have hS0 : Blk (W4.alloc (.cells #[.slice LA.lw.A LA.work.length LA.lw.c, .slice LA.lr.A LA.recov.length LA.lr.c] 33)) ga 35 ca ∧ Prg (W4.alloc (.cells #[.slice LA.lw.A LA.work.length LA.lw.c, .slice LA.lr.A LA.recov.length LA.lr.c] 33)) w.heap.size LA ca ∧ Below w.heap.size w (W4.alloc (.cells #[.slice LA.lw.A LA.work.length LA.lw.c, .slice LA.lr.A LA.recov.length LA.lr.c] 33)) := ⟨ya.below hBz lga, PA.new hBz, below_and hB05.out hBz⟩
  replace hS0 := Lib.hid hS0
  have hbl' := Lib.hid hbl
  replace k14 := Lib.hid k14
  replace k15 := Lib.hid k15
  clear hBz hbl ya PA hB05 cLS
  go_wp2_with fail
  try rw [hgl]
  clear g14 g15 lga
  generalize W4.alloc (.cells #[.slice LA.lw.A LA.work.length LA.lw.c, .slice LA.lr.A LA.recov.length LA.lr.c] 33) = V0 at *
  have hbl := hbl'.out
  clear hbl'
  obtain ⟨ya, PA, hB0⟩ := hS0.out
  clear hS0
  refine wp_loop_rounds 3 ?_
  rw [rounds_succ]
  have z0 := hbl.cell 0
  simp only [List.getElem?_toArray, List.getElem?_cons_zero, List.getElem?_cons_succ] at z0
  have lgl := hbl.lt
  have hok := PA.own.work.ok
  have hsz : szS LA.work ≤ 10000 := szA.out.2.1
  have hc1 := renameS_yes LA.work LA.lw fr sNew V0 hok (by omega)
  replace hc1 := Lib.hid hc1
  replace hsz := Lib.hid hsz
  have ya' := Lib.hid ya
  have PA' := Lib.hid PA
  have hB0' := Lib.hid hB0
  have hbl' := Lib.hid hbl
  clear ya PA hB0 hbl
  replace hok := Lib.hid hok
  go_wp2_with fail
  refine hc1.out.mono ?_
  rintro e X01 ⟨aA, ac, na, rfl, hla, hpa, hoa, _, hb1⟩
  clear z0 lgl hc1
  have hsa : szS na = szS LA.work := by rw [← szS_plain na, hpa, szS_ren]
  have hc2 := renameS_yes na ⟨aA, ac⟩ sNew fr X01 hoa.ok (by rw [hsa]; have := hsz.out; omega)
  rw [hla] at hc2
  have hok1 := hok.out.all (keeps_below hb1)
  have hc3 := renameS_yes LA.work LA.lw sOther sNew
  replace hc2 := Lib.hid hc2
  replace hc3 := Lib.hid hc3
  replace hb1 := Lib.hid hb1
  replace hoa := Lib.hid hoa
  replace hla := Lib.hid hla
  replace hpa := Lib.hid hpa
  replace hsa := Lib.hid hsa
  replace hok1 := Lib.hid hok1
  go_wp2_with fail
  refine hc2.out.mono ?_
  rintro e X02 ⟨bA, bc, nb, rfl, hlb, hpb, hob, _, hb2⟩
  have hok2 := hok1.out.all (keeps_below hb2)
  have hoa2 := hoa.out.keep (only_of_below [] hb2) (by simp)
  have hb02 := below_and hb1.out hb2
  have hc3' := hc3.out X02 hok2 (by have := hsz.out; omega)
  replace hc3' := Lib.hid hc3'
  replace hlb := Lib.hid hlb
  replace hpb := Lib.hid hpb
  replace hob := Lib.hid hob
  replace hok2 := Lib.hid hok2
  replace hoa2 := Lib.hid hoa2
  replace hb02 := Lib.hid hb02
  clear hc2 hc3 hb2 hok1 hoa hb1
  go_wp2_with fail
  refine hc3'.out.mono ?_
  rintro e X03 ⟨nA, nc, nn, rfl, hln, hpn, hon, _, hb3⟩
  obtain ⟨t1, t2, t3, t4, t5⟩ := ren_facts fr sm.out.1 hpa.out hpb.out hpn
  have hok3 := hok2.out.all (keeps_below hb3)
  have hoa3 := hoa2.out.keep (only_of_below [] hb3) (by simp)
  have hob3 := hob.out.keep (only_of_below [] hb3) (by simp)
  have hb03 := below_and hb02.out hb3
  have szb : szS nb = szS LA.work := by rw [← szS_plain nb, hpb.out, szS_ren, t3]
  have szn : szS nn = szS LA.work := by rw [← szS_plain nn, hpn, szS_ren]
  have hd1 := fun W (hW : Below X03.heap.size X03 W) => sameStmts_yes ⟨bA, bc⟩ LA.lw nb LA.work W (hob3.ok.all (keeps_below hW)) (hok3.all (keeps_below hW)) (by rw [szb]; have := hsz.out; omega) (by have := hsz.out; omega)
  have hd2 := fun W (hW : Below X03.heap.size X03 W) => sameStmts_yes ⟨nA, nc⟩ LA.lw nn LA.work W (hon.ok.all (keeps_below hW)) (hok3.all (keeps_below hW)) (by rw [szn]; have := hsz.out; omega) (by have := hsz.out; omega)
  have hd3 := fun W (hW : Below X03.heap.size X03 W) => sizeS na ⟨aA, ac⟩ (thin_of (by rw [t3]; have := hsz.out; omega)) W (hoa3.ok.all (keeps_below hW)) (szS LA.work) (by rw [t3, if_pos (by have := hsz.out; omega)])
  have hd4 := fun W (hW : Below X03.heap.size X03 W) => sizeS LA.work LA.lw (thin_of (by have := hsz.out; omega)) W (hok3.all (keeps_below hW)) (szS LA.work) (by rw [if_pos (by have := hsz.out; omega)])
  have hd5 := fun W (hW : Below X03.heap.size X03 W) => depth_yes na ⟨aA, ac⟩ W (hoa3.ok.all (keeps_below hW)) (by rw [t3]; have := hsz.out; omega)
  have hd6 := fun W (hW : Below X03.heap.size X03 W) => depth_yes LA.work LA.lw W (hok3.all (keeps_below hW)) (by have := hsz.out; omega)
  have hd7 := fun W (hW : Below X03.heap.size X03 W) => calls_ok na ⟨aA, ac⟩ W (hoa3.ok.all (keeps_below hW)) (by rw [t3]; have := hsz.out; omega)
  have hd8 := fun W (hW : Below X03.heap.size X03 W) => calls_ok LA.work LA.lw W (hok3.all (keeps_below hW)) (by have := hsz.out; omega)
  rw [hlb.out] at hd1
  simp only [t1] at hd1
  rw [hln] at hd2
  simp only [t2] at hd2
  rw [hla.out] at hd3
  rw [hla.out] at hd5
  simp only [t4] at hd5
  rw [hla.out] at hd7
  simp only [t5] at hd7
  have hnl : (callsS LA.work).length ≤ 20000 := by
    have h1 := foldC_len (nodesS LA.work) []
    have h2 := nodesS_len_le LA.work
    have h3 := hsz.out
    simp only [callsS, List.length_nil] at h1 ⊢
    omega
  replace hd1 := Lib.hid hd1
  replace hd2 := Lib.hid hd2
  replace hd3 := Lib.hid hd3
  replace hd4 := Lib.hid hd4
  replace hd5 := Lib.hid hd5
  replace hd6 := Lib.hid hd6
  replace hd7 := Lib.hid hd7
  replace hd8 := Lib.hid hd8
  replace hb03 := Lib.hid hb03
  replace hnl := Lib.hid hnl
  clear hc3' hlb hpb hob hok2 hoa2 hb02 hla hpa hsa hb3 t1 t2 t3 t4 t5 hok3 hoa3 hob3 szb szn hln hpn hon
  go_wp2_with fail
  refine (hd1.out _ (Below.refl _ _)).mono ?_
  rintro e Y00 ⟨rfl, hB⟩
  have hC0 := hB
  replace hC0 := Lib.hid hC0
  clear hB
  go_wp2_with fail
  refine (hd2.out _ hC0.out).mono ?_
  rintro e Y01 ⟨rfl, hB⟩
  have hC1 := below_and hC0.out hB
  replace hC1 := Lib.hid hC1
  clear hB hC0
  go_wp2_with fail
  refine (hd3.out _ hC1.out).mono ?_
  rintro e Y02 ⟨rfl, hB⟩
  have hC2 := below_and hC1.out hB
  replace hC2 := Lib.hid hC2
  clear hB hC1
  go_wp2_with fail
  refine (hd4.out _ hC2.out).mono ?_
  rintro e Y03 ⟨rfl, hB⟩
  have hC3 := below_and hC2.out hB
  replace hC3 := Lib.hid hC3
  clear hB hC2
  go_wp2_with fail
  refine (hd5.out _ hC3.out).mono ?_
  rintro e Y04 ⟨rfl, hB⟩
  have hC4 := below_and hC3.out hB
  replace hC4 := Lib.hid hC4
  clear hB hC3
  go_wp2_with fail
  refine (hd6.out _ hC4.out).mono ?_
  rintro e Y05 ⟨rfl, hB⟩
  have hC5 := below_and hC4.out hB
  replace hC5 := Lib.hid hC5
  clear hB hC4
  go_wp2_with fail
  refine (hd7.out _ hC5.out).mono ?_
  rintro e Y06 ⟨⟨v1, rfl, hv1⟩, hB⟩
  obtain ⟨B1, b1, rfl⟩ := own_form hv1
  have hC6 := below_and hC5.out hB
  replace hC6 := Lib.hid hC6
  replace hv1 := Lib.hid hv1
  clear hB hC5
  go_wp2_with fail
  refine (hd8.out _ hC6.out).mono ?_
  rintro e Y07 ⟨⟨v2, rfl, hv2⟩, hB⟩
  obtain ⟨B2, b2, rfl⟩ := own_form hv2
  have hC7 := below_and hC6.out hB
  have hq1 := Reads.of_own (own_only hv1.out (only_of_below [] hB) (by simp))
  have hce := equalStr B1 B2 b1 b2 _ _ _ _ Y07 hq1 (Reads.of_own hv2) (by have := hnl.out; omega) true (by simp)
  replace hC7 := Lib.hid hC7
  replace hce := Lib.hid hce
  clear hB hC6 hv1 hv2 hq1
  go_wp2_with fail
  refine hce.out.mono ?_
  rintro e Y08 ⟨rfl, hB⟩
  have hC8 := below_and hb03.out (below_and hC7.out hB)
  have ya := ya'.out.below hC8 ya'.out.lt
  have PA := PA'.out.new hC8
  have hB0 := below_and hB0'.out hC8
  have hbl := hbl'.out.below hC8 hbl'.out.lt
  replace ya := Lib.hid ya
  replace PA := Lib.hid PA
  replace hB0 := Lib.hid hB0
  replace hbl := Lib.hid hbl
  clear hC8 hB hC7 hce ya' PA' hB0' hbl' hb03 hd1 hd2 hd3 hd4 hd5 hd6 hd7 hd8 hnl hsz hok
  go_wp2_with fail
  replace ya := ya.out
  replace PA := PA.out
  replace hB0 := hB0.out
  replace hbl := hbl.out
  rw [rounds_succ]
  have z1 := hbl.cell 1
  simp only [List.getElem?_toArray, List.getElem?_cons_zero, List.getElem?_cons_succ] at z1
  have lgl := hbl.lt
  have hok := PA.own.recov.ok
  have hsz : szS LA.recov ≤ 10000 := szA.out.2.2.1
  have hc1 := renameS_yes LA.recov LA.lr fr sNew Y08 hok (by omega)
  replace hc1 := Lib.hid hc1
  replace hsz := Lib.hid hsz
  have ya' := Lib.hid ya
  have PA' := Lib.hid PA
  have hB0' := Lib.hid hB0
  have hbl' := Lib.hid hbl
  clear ya PA hB0 hbl
  replace hok := Lib.hid hok
  go_wp2_with fail
  refine hc1.out.mono ?_
  rintro e X11 ⟨aA, ac, na, rfl, hla, hpa, hoa, _, hb1⟩
  clear z1 lgl hc1
  have hsa : szS na = szS LA.recov := by rw [← szS_plain na, hpa, szS_ren]
  have hc2 := renameS_yes na ⟨aA, ac⟩ sNew fr X11 hoa.ok (by rw [hsa]; have := hsz.out; omega)
  rw [hla] at hc2
  have hok1 := hok.out.all (keeps_below hb1)
  have hc3 := renameS_yes LA.recov LA.lr sOther sNew
  replace hc2 := Lib.hid hc2
  replace hc3 := Lib.hid hc3
  replace hb1 := Lib.hid hb1
  replace hoa := Lib.hid hoa
  replace hla := Lib.hid hla
  replace hpa := Lib.hid hpa
  replace hsa := Lib.hid hsa
  replace hok1 := Lib.hid hok1
  go_wp2_with fail
  refine hc2.out.mono ?_
  rintro e X12 ⟨bA, bc, nb, rfl, hlb, hpb, hob, _, hb2⟩
  have hok2 := hok1.out.all (keeps_below hb2)
  have hoa2 := hoa.out.keep (only_of_below [] hb2) (by simp)
  have hb02 := below_and hb1.out hb2
  have hc3' := hc3.out X12 hok2 (by have := hsz.out; omega)
  replace hc3' := Lib.hid hc3'
  replace hlb := Lib.hid hlb
  replace hpb := Lib.hid hpb
  replace hob := Lib.hid hob
  replace hok2 := Lib.hid hok2
  replace hoa2 := Lib.hid hoa2
  replace hb02 := Lib.hid hb02
  clear hc2 hc3 hb2 hok1 hoa hb1
  go_wp2_with fail
  refine hc3'.out.mono ?_
  rintro e X13 ⟨nA, nc, nn, rfl, hln, hpn, hon, _, hb3⟩
  obtain ⟨t1, t2, t3, t4, t5⟩ := ren_facts fr sm.out.2.1 hpa.out hpb.out hpn
  have hok3 := hok2.out.all (keeps_below hb3)
  have hoa3 := hoa2.out.keep (only_of_below [] hb3) (by simp)
  have hob3 := hob.out.keep (only_of_below [] hb3) (by simp)
  have hb03 := below_and hb02.out hb3
  have szb : szS nb = szS LA.recov := by rw [← szS_plain nb, hpb.out, szS_ren, t3]
  have szn : szS nn = szS LA.recov := by rw [← szS_plain nn, hpn, szS_ren]
  have hd1 := fun W (hW : Below X13.heap.size X13 W) => sameStmts_yes ⟨bA, bc⟩ LA.lr nb LA.recov W (hob3.ok.all (keeps_below hW)) (hok3.all (keeps_below hW)) (by rw [szb]; have := hsz.out; omega) (by have := hsz.out; omega)
  have hd2 := fun W (hW : Below X13.heap.size X13 W) => sameStmts_yes ⟨nA, nc⟩ LA.lr nn LA.recov W (hon.ok.all (keeps_below hW)) (hok3.all (keeps_below hW)) (by rw [szn]; have := hsz.out; omega) (by have := hsz.out; omega)
  have hd3 := fun W (hW : Below X13.heap.size X13 W) => sizeS na ⟨aA, ac⟩ (thin_of (by rw [t3]; have := hsz.out; omega)) W (hoa3.ok.all (keeps_below hW)) (szS LA.recov) (by rw [t3, if_pos (by have := hsz.out; omega)])
  have hd4 := fun W (hW : Below X13.heap.size X13 W) => sizeS LA.recov LA.lr (thin_of (by have := hsz.out; omega)) W (hok3.all (keeps_below hW)) (szS LA.recov) (by rw [if_pos (by have := hsz.out; omega)])
  have hd5 := fun W (hW : Below X13.heap.size X13 W) => depth_yes na ⟨aA, ac⟩ W (hoa3.ok.all (keeps_below hW)) (by rw [t3]; have := hsz.out; omega)
  have hd6 := fun W (hW : Below X13.heap.size X13 W) => depth_yes LA.recov LA.lr W (hok3.all (keeps_below hW)) (by have := hsz.out; omega)
  have hd7 := fun W (hW : Below X13.heap.size X13 W) => calls_ok na ⟨aA, ac⟩ W (hoa3.ok.all (keeps_below hW)) (by rw [t3]; have := hsz.out; omega)
  have hd8 := fun W (hW : Below X13.heap.size X13 W) => calls_ok LA.recov LA.lr W (hok3.all (keeps_below hW)) (by have := hsz.out; omega)
  rw [hlb.out] at hd1
  simp only [t1] at hd1
  rw [hln] at hd2
  simp only [t2] at hd2
  rw [hla.out] at hd3
  rw [hla.out] at hd5
  simp only [t4] at hd5
  rw [hla.out] at hd7
  simp only [t5] at hd7
  have hnl : (callsS LA.recov).length ≤ 20000 := by
    have h1 := foldC_len (nodesS LA.recov) []
    have h2 := nodesS_len_le LA.recov
    have h3 := hsz.out
    simp only [callsS, List.length_nil] at h1 ⊢
    omega
  replace hd1 := Lib.hid hd1
  replace hd2 := Lib.hid hd2
  replace hd3 := Lib.hid hd3
  replace hd4 := Lib.hid hd4
  replace hd5 := Lib.hid hd5
  replace hd6 := Lib.hid hd6
  replace hd7 := Lib.hid hd7
  replace hd8 := Lib.hid hd8
  replace hb03 := Lib.hid hb03
  replace hnl := Lib.hid hnl
  clear hc3' hlb hpb hob hok2 hoa2 hb02 hla hpa hsa hb3 t1 t2 t3 t4 t5 hok3 hoa3 hob3 szb szn hln hpn hon
  go_wp2_with fail
  refine (hd1.out _ (Below.refl _ _)).mono ?_
  rintro e Y10 ⟨rfl, hB⟩
  have hC0 := hB
  replace hC0 := Lib.hid hC0
  clear hB
  go_wp2_with fail
  refine (hd2.out _ hC0.out).mono ?_
  rintro e Y11 ⟨rfl, hB⟩
  have hC1 := below_and hC0.out hB
  replace hC1 := Lib.hid hC1
  clear hB hC0
  go_wp2_with fail
  refine (hd3.out _ hC1.out).mono ?_
  rintro e Y12 ⟨rfl, hB⟩
  have hC2 := below_and hC1.out hB
  replace hC2 := Lib.hid hC2
  clear hB hC1
  go_wp2_with fail
  refine (hd4.out _ hC2.out).mono ?_
  rintro e Y13 ⟨rfl, hB⟩
  have hC3 := below_and hC2.out hB
  replace hC3 := Lib.hid hC3
  clear hB hC2
  go_wp2_with fail
  refine (hd5.out _ hC3.out).mono ?_
  rintro e Y14 ⟨rfl, hB⟩
  have hC4 := below_and hC3.out hB
  replace hC4 := Lib.hid hC4
  clear hB hC3
  go_wp2_with fail
  refine (hd6.out _ hC4.out).mono ?_
  rintro e Y15 ⟨rfl, hB⟩
  have hC5 := below_and hC4.out hB
  replace hC5 := Lib.hid hC5
  clear hB hC4
  go_wp2_with fail
  refine (hd7.out _ hC5.out).mono ?_
  rintro e Y16 ⟨⟨v1, rfl, hv1⟩, hB⟩
  obtain ⟨B1, b1, rfl⟩ := own_form hv1
  have hC6 := below_and hC5.out hB
  replace hC6 := Lib.hid hC6
  replace hv1 := Lib.hid hv1
  clear hB hC5
  go_wp2_with fail
  refine (hd8.out _ hC6.out).mono ?_
  rintro e Y17 ⟨⟨v2, rfl, hv2⟩, hB⟩
  obtain ⟨B2, b2, rfl⟩ := own_form hv2
  have hC7 := below_and hC6.out hB
  have hq1 := Reads.of_own (own_only hv1.out (only_of_below [] hB) (by simp))
  have hce := equalStr B1 B2 b1 b2 _ _ _ _ Y17 hq1 (Reads.of_own hv2) (by have := hnl.out; omega) true (by simp)
  replace hC7 := Lib.hid hC7
  replace hce := Lib.hid hce
  clear hB hC6 hv1 hv2 hq1
  go_wp2_with fail
  refine hce.out.mono ?_
  rintro e Y18 ⟨rfl, hB⟩
  have hC8 := below_and hb03.out (below_and hC7.out hB)
  have ya := ya'.out.below hC8 ya'.out.lt
  have PA := PA'.out.new hC8
  have hB0 := below_and hB0'.out hC8
  have hbl := hbl'.out.below hC8 hbl'.out.lt
  replace ya := Lib.hid ya
  replace PA := Lib.hid PA
  replace hB0 := Lib.hid hB0
  replace hbl := Lib.hid hbl
  clear hC8 hB hC7 hce ya' PA' hB0' hbl' hb03 hd1 hd2 hd3 hd4 hd5 hd6 hd7 hd8 hnl hsz hok
  go_wp2_with fail
  replace ya := ya.out
  replace PA := PA.out
  replace hB0 := hB0.out
  replace hbl := hbl.out
  rw [rounds_succ]
  have ya' := Lib.hid ya
  have PA' := Lib.hid PA
  have hB0' := Lib.hid hB0
  clear ya PA hB0 hbl
  go_upto_region 14 with (fail)
  have hra := cs_inv PA'.out ya'.out
  have hc1 := rename_yes LA.inv fr sNew Y18 PA'.out.own.inv.ok (by have := szA.out.2.2.2; omega)
  replace hc1 := Lib.hid hc1
  go_wp2_with (refine wpList_load_mid rfl 30 (.tmp 77) rfl ga 16 rfl (LA.inv.cells eT) _ hra Try.underlying30 rfl (by rw [Ex.cells_len]; kernel_rfl) ?_; refine Shut.out ?_)
  refine shut_mk ?_
  go_wp2_with fail
  refine hc1.out.mono ?_
  rintro e Z1 ⟨L, rfl, hLp, hLo, _, hB⟩
  have smi := sm.out.2.2
  have szi := szA.out.2.2.2
  obtain ⟨u1, u2, _⟩ := renE_facts (b := L) fr smi hLp
  have hLs := hLo.ok
  obtain ⟨ge, hge⟩ : ∃ g, g = Z1.heap.size := ⟨_, rfl⟩
  have hBx := (Below.refl _ Z1).alloc (Nat.le_refl _) (.cells #[.int .u8 0, .int .u8 0, .int .u32 0, .int .i64 0, .string ⟨#[]⟩, .slice none 0 0] 30)
  have xe : Blk (Z1.alloc (.cells #[.int .u8 0, .int .u8 0, .int .u32 0, .int .i64 0, .string ⟨#[]⟩, .slice none 0 0] 30)) ge 30 #[.int .u8 0, .int .u8 0, .int .u32 0, .int .i64 0, .string ⟨#[]⟩, .slice none 0 0] := by rw [hge]; exact Blk.new Z1 30 _
  have hO := only_setCells (b := ge) (L.cells eT) 0 (Z1.alloc (.cells #[.int .u8 0, .int .u8 0, .int .u32 0, .int .i64 0, .string ⟨#[]⟩, .slice none 0 0] 30))
  have hB2 : Below Z1.heap.size Z1 ((Z1.alloc (.cells #[.int .u8 0, .int .u8 0, .int .u32 0, .int .i64 0, .string ⟨#[]⟩, .slice none 0 0] 30)).setCells ge 0 (L.cells eT)) := hBx.trans (hO.below (by simp) (by simp; omega))
  have ye := blk_put (vs := (L.cells eT).toArray) xe (by simp [Ex.cells_len])
  have te := there_blk_at xe (o := 0) (n := 6) (by decide)
  have hB3 := below_and hB hB2
  have hS0 : CE w ga ge LA ca L ((Z1.alloc (.cells #[.int .u8 0, .int .u8 0, .int .u32 0, .int .i64 0, .string ⟨#[]⟩, .slice none 0 0] 30)).setCells ge 0 (L.cells eT)) := ⟨ya'.out.below hB3 ya'.out.lt, ye, PA'.out.new hB3, hLs.below hB2, below_and hB0'.out hB3⟩
  have oL : (L.cells eT).toArray.all (·.oneCell') = true := all_oneCell_toArray (L.cells_one eT)
  have sL : (L.cells eT).toArray.size = 6 := by simp [Ex.cells_len]
  have hge' := Lib.hid hge
  replace hS0 := Lib.hid hS0
  replace hLp := Lib.hid hLp
  clear hge hBx xe hO hB2 ye hB3 hB ya' PA' hB0' hLo hLs hc1 hra
  go_wp2_with (refine wpList_store_at 30 (.tmp 12) (.tmp 80) Z1.heap.size 0 (L.cells eT).toArray rfl rfl (by rw [sL, ← hge'.out]; exact te) (by rw [sL]; kernel_rfl) oL ?_; refine Shut.out ?_)
  refine shut_mk ?_
  try simp only [Act.put, List.setIfInBounds_toArray, List.set_cons_zero, List.set_cons_succ]
  rw [← hge'.out]
  have hS := hS0.out
  clear hS0 te oL
  generalize (Z1.alloc (.cells #[.int .u8 0, .int .u8 0, .int .u32 0, .int .i64 0, .string ⟨#[]⟩, .slice none 0 0] 30)).setCells ge 0 (L.cells eT) = Z2 at *
  clear hge'
  obtain ⟨ns, hns⟩ : ∃ ns, ns = namesE LA.inv := ⟨_, rfl⟩
  obtain ⟨ms, hms⟩ : ∃ ms, ms = ns.map (chg fr sNew) := ⟨_, rfl⟩
  have hmse : namesE L = ms := by rw [u2, hms, hns]
  obtain ⟨n, hn⟩ : ∃ n, n = ns.length := ⟨_, rfl⟩
  have hmn : ms.length = n := by rw [hms, List.length_map, hn]
  have hn2 : n ≤ 20000 := by
    have h1 := foldN_len LA.inv.nodes []
    have h2 := LA.inv.nodes_len
    have h3 : (namesE LA.inv).length ≤ LA.inv.nodes.length := by simpa [namesE] using h1
    rw [hn, hns]
    omega
  have hc1 : ∀ W, CE w ga ge LA ca L W → Calls Try.prog 22 #[aggX LA.inv] W fun r w' => (∃ v, r = .returned v ∧ w'.ownsRow w.heap.size 9 1 v n (strs ns)) ∧ Below W.heap.size W w' := fun W h => (names_ok LA.inv W h.pa.own.inv.ok (by omega)).mono fun r w' ⟨⟨v, q1, q2⟩, q3⟩ => ⟨⟨v, q1, by rw [hn, hns]; exact own_base q2 h.be.size⟩, q3⟩
  have hc2 : ∀ W, CE w ga ge LA ca L W → Calls Try.prog 22 #[aggX L] W fun r w' => (∃ v, r = .returned v ∧ w'.ownsRow w.heap.size 9 1 v n (strs ms)) ∧ Below W.heap.size W w' := fun W h => (names_ok L W h.lo (by omega)).mono fun r w' ⟨⟨v, q1, q2⟩, q3⟩ => ⟨⟨v, q1, by rw [hmse] at q2; rw [← hmn]; exact own_base q2 h.be.size⟩, q3⟩
  replace hc1 := Lib.hid hc1
  replace hc2 := Lib.hid hc2
  replace hmse := Lib.hid hmse
  replace hms := Lib.hid hms
  replace hns := Lib.hid hns
  replace hn := Lib.hid hn
  replace hmn := Lib.hid hmn
  replace u2 := Lib.hid u2
  have hS' := Lib.hid hS
  clear hS
  go_upto_region 15 with (fail)
  have hS := hS'.out.new ((Below.refl _ Z2).drew)
  clear hS'
  refine wp_region_held (S := CE w ga ge LA ca L) (by kernel_rfl) ?_
  change wpAnyH _ _ _ _ _ _ _ _ (World.drew _)
  refine takeH 0 (v := ?_) rfl (by kernel_rfl) (by kernel_rfl) (by kernel_rfl) (fun _ _ _ h => h) (by rfl) hS ?_ ?_
  rotate_left
  · (intro wz hSw; clear hSw; go_simp; try with_reducible rfl)
  try simp only [Act.put, List.setIfInBounds_toArray, List.set_cons_zero, List.set_cons_succ]
  refine takeH 1 rfl (by kernel_rfl) (by kernel_rfl) (by kernel_rfl) (fun _ _ _ h => h) (by rfl) hS (load_expr (.tmp 81) rfl ga 16 rfl LA.inv (fun w h => cs_inv h.pa h.ba)) ?_
  try simp only [Act.put, List.setIfInBounds_toArray, List.set_cons_zero, List.set_cons_succ]
  refine takeH 3 rfl (by kernel_rfl) (by kernel_rfl) (by kernel_rfl) (fun _ _ _ h => h) (by rfl) hS (load_expr (.tmp 12) rfl ge 0 rfl L (fun w h => h.range)) ?_
  try simp only [Act.put, List.setIfInBounds_toArray, List.set_cons_zero, List.set_cons_succ]
  refine callH 2 rfl (by kernel_rfl) (fun K hK => ?_)
  go_simp
  go_wp2_with (go_at_call 22; refine (hc1.out _ hS).mono ?_; rintro e U1 ⟨⟨v1, rfl, hv1⟩, hB⟩)
  obtain ⟨N1, k1, rfl⟩ := own_form hv1
  refine hK.out _ _ (hS.new hB) (fun hSn => ?_)
  clear hK K hS
  have hS := hSn
  clear hSn
  refine callH 4 rfl (by kernel_rfl) (fun K hK => ?_)
  go_simp
  go_wp2_with (go_at_call 22; refine (hc2.out _ hS).mono ?_; rintro e U2 ⟨⟨v2, rfl, hv2⟩, hB⟩)
  obtain ⟨N2, k2, rfl⟩ := own_form hv2
  replace hv1 := own_only hv1 (only_of_below [] hB) (by simp)
  refine hK.out _ _ (hS.new hB) (fun hSn => ?_)
  clear hK K hS
  have hS := hSn
  clear hSn
  refine takeH 5 (v := ?_) rfl (by kernel_rfl) (by kernel_rfl) (by kernel_rfl) (fun _ _ _ h => h) (by rfl) hS ?_ ?_
  rotate_left
  · (intro wz hSw; clear hSw; go_simp; try with_reducible rfl)
  try simp only [Act.put, List.setIfInBounds_toArray, List.set_cons_zero, List.set_cons_succ]
  refine takeH 6 (v := ?_) rfl (by kernel_rfl) (by kernel_rfl) (by kernel_rfl) (fun _ _ _ h => h) (by rfl) hS ?_ ?_
  rotate_left
  · (intro wz hSw; clear hSw; go_simp; try with_reducible rfl)
  try simp only [Act.put, List.setIfInBounds_toArray, List.set_cons_zero, List.set_cons_succ]
  refine wpAnyH_done (by kernel_rfl) ?_ _
  have hF : CF w ga ge LA ca L N1 N2 n k1 k2 ns ms U2 := ⟨hS, hv1, hv2⟩
  clear hS hv1 hv2 hc1 hc2
  have hd1 : ∀ W, CF w ga ge LA ca L N1 N2 n k1 k2 ns ms W → Calls Try.prog 27 #[aggX L, .string sNew, .string fr] W fun r w' => ∃ L2 : Ex Loc, r = .returned (aggX L2) ∧ L2.plain = L.ren (chg sNew fr) ∧ L2.own eT w' W.heap.size ∧ Below W.heap.size W w' := fun W h => (rename_yes L sNew fr W h.e.lo (by omega)).mono fun r w' ⟨L2, q1, q2, q3, _, q5⟩ => ⟨L2, q1, q2, q3, q5⟩
  have hd2 : ∀ W (L2 : Ex Loc) (b : Nat), CF w ga ge LA ca L N1 N2 n k1 k2 ns ms W → L2.plain = L.ren (chg sNew fr) → L2.own eT W b → Calls Try.prog 28 #[aggX L2, aggX LA.inv] W fun r w' => r = .returned (.bool true) ∧ Below W.heap.size W w' := fun W L2 b h hp ho => by
    have hsz : L2.sz = LA.inv.sz := by rw [← Ex.sz_plain L2, hp, Ex.sz_ren, u1]
    have := sameExpr_yes L2 LA.inv W ho.ok h.e.pa.own.inv.ok (by omega) (by omega)
    rw [(renE_facts (b := L2) fr smi hLp.out).2.2 hp] at this
    exact this
  have hd3 : ∀ W, CF w ga ge LA ca L N1 N2 n k1 k2 ns ms W → Calls Try.prog 14 #[aggX L] W fun r w' => r = .returned (.int .i64 (LA.inv.sz : Nat)) ∧ Below W.heap.size W w' := fun W h => sizeE L W h.e.lo _ (by rw [u1, if_pos (by omega)])
  have hd4 : ∀ W, CF w ga ge LA ca L N1 N2 n k1 k2 ns ms W → Calls Try.prog 14 #[aggX LA.inv] W fun r w' => r = .returned (.int .i64 (LA.inv.sz : Nat)) ∧ Below W.heap.size W w' := fun W h => sizeE LA.inv W h.e.pa.own.inv.ok _ (by rw [if_pos (by omega)])
  replace hd1 := Lib.hid hd1
  replace hd2 := Lib.hid hd2
  replace hd3 := Lib.hid hd3
  replace hd4 := Lib.hid hd4
  have hF' := Lib.hid hF
  clear hF
  go_upto_region 16 with (fail)
  have hS := hF'.out.new ((Below.refl _ U2).drew)
  clear hF'
  refine wp_region_held (S := CF w ga ge LA ca L N1 N2 n k1 k2 ns ms) (by kernel_rfl) ?_
  change wpAnyH _ _ _ _ _ _ _ _ (World.drew _)
  refine takeH 1 (v := ?_) rfl (by kernel_rfl) (by kernel_rfl) (by kernel_rfl) (fun _ _ _ h => h) (by rfl) hS ?_ ?_
  rotate_left
  · (intro wz hSw; clear hSw; go_simp; try with_reducible rfl)
  try simp only [Act.put, List.setIfInBounds_toArray, List.set_cons_zero, List.set_cons_succ]
  refine takeH 3 (v := ?_) rfl (by kernel_rfl) (by kernel_rfl) (by kernel_rfl) (fun _ _ _ h => h) (by rfl) hS ?_ ?_
  rotate_left
  · (intro wz hSw; clear hSw; go_simp; try with_reducible rfl)
  try simp only [Act.put, List.setIfInBounds_toArray, List.set_cons_zero, List.set_cons_succ]
  refine takeH 0 rfl (by kernel_rfl) (by kernel_rfl) (by kernel_rfl) (fun _ _ _ h => h) (by rfl) hS (load_expr (.tmp 12) rfl ge 0 rfl L (fun w h => h.e.range)) ?_
  try simp only [Act.put, List.setIfInBounds_toArray, List.set_cons_zero, List.set_cons_succ]
  refine takeH 4 rfl (by kernel_rfl) (by kernel_rfl) (by kernel_rfl) (fun _ _ _ h => h) (by rfl) hS (load_expr (.tmp 89) rfl ga 16 rfl LA.inv (fun w h => cs_inv h.e.pa h.e.ba)) ?_
  try simp only [Act.put, List.setIfInBounds_toArray, List.set_cons_zero, List.set_cons_succ]
  refine callH 2 rfl (by kernel_rfl) (fun K hK => ?_)
  go_simp
  go_wp2_with (go_at_call 27; refine (hd1.out _ hS).mono ?_; rintro e U21 ⟨L2, rfl, hq2, ho2, hB⟩)
  refine hK.out _ _ (hS.new hB) (fun hSn => ?_)
  clear hK K hS
  have hS := hSn
  clear hSn
  refine callH 5 rfl (by kernel_rfl) (fun K hK => ?_)
  go_simp
  go_wp2_with (go_at_call 28; refine (hd2.out _ _ _ hS hq2 ho2).mono ?_; rintro e U22 ⟨rfl, hB⟩)
  refine hK.out _ _ (hS.new hB) (fun hSn => ?_)
  clear hK K hS
  have hS := hSn
  clear hSn
  refine takeH 6 (v := ?_) rfl (by kernel_rfl) (by kernel_rfl) (by kernel_rfl) (fun _ _ _ h => h) (by rfl) hS ?_ ?_
  rotate_left
  · (intro wz hSw; clear hSw; go_simp; try with_reducible rfl)
  try simp only [Act.put, List.setIfInBounds_toArray, List.set_cons_zero, List.set_cons_succ]
  refine takeH 7 (v := ?_) rfl (by kernel_rfl) (by kernel_rfl) (by kernel_rfl) (fun _ _ _ h => h) (by rfl) hS ?_ ?_
  rotate_left
  · (intro wz hSw; clear hSw; go_simp; try with_reducible rfl)
  try simp only [Act.put, List.setIfInBounds_toArray, List.set_cons_zero, List.set_cons_succ]
  refine takeH 8 (v := ?_) rfl (by kernel_rfl) (by kernel_rfl) (by kernel_rfl) (fun _ _ _ h => h) (by rfl) hS ?_ ?_
  rotate_left
  · (intro wz hSw; clear hSw; go_simp; try with_reducible rfl)
  try simp only [Act.put, List.setIfInBounds_toArray, List.set_cons_zero, List.set_cons_succ]
  refine takeH 9 (v := ?_) rfl (by kernel_rfl) (by kernel_rfl) (by kernel_rfl) (fun _ _ _ h => h) (by rfl) hS ?_ ?_
  rotate_left
  · (intro wz hSw; clear hSw; go_simp; try with_reducible rfl)
  try simp only [Act.put, List.setIfInBounds_toArray, List.set_cons_zero, List.set_cons_succ]
  refine takeH 10 (v := ?_) rfl (by kernel_rfl) (by kernel_rfl) (by kernel_rfl) (fun _ _ _ h => h) (by rfl) hS ?_ ?_
  rotate_left
  · (intro wz hSw; clear hSw; go_simp; try with_reducible rfl)
  try simp only [Act.put, List.setIfInBounds_toArray, List.set_cons_zero, List.set_cons_succ]
  refine takeH 11 (v := ?_) rfl (by kernel_rfl) (by kernel_rfl) (by kernel_rfl) (fun _ _ _ h => h) (by rfl) hS ?_ ?_
  rotate_left
  · (intro wz hSw; clear hSw; go_simp; try with_reducible rfl)
  try simp only [Act.put, List.setIfInBounds_toArray, List.set_cons_zero, List.set_cons_succ]
  refine takeH 12 (v := ?_) rfl (by kernel_rfl) (by kernel_rfl) (by kernel_rfl) (fun _ _ _ h => h) (by rfl) hS ?_ ?_
  rotate_left
  · (intro wz hSw; clear hSw; go_simp; try with_reducible rfl)
  try simp only [Act.put, List.setIfInBounds_toArray, List.set_cons_zero, List.set_cons_succ]
  refine takeH 13 (v := ?_) rfl (by kernel_rfl) (by kernel_rfl) (by kernel_rfl) (fun _ _ _ h => h) (by rfl) hS ?_ ?_
  rotate_left
  · (intro wz hSw; clear hSw; go_simp; try with_reducible rfl)
  try simp only [Act.put, List.setIfInBounds_toArray, List.set_cons_zero, List.set_cons_succ]
  refine takeH 14 (v := ?_) rfl (by kernel_rfl) (by kernel_rfl) (by kernel_rfl) (fun _ _ _ h => h) (by rfl) hS ?_ ?_
  rotate_left
  · (intro wz hSw; clear hSw; go_simp; try with_reducible rfl)
  try simp only [Act.put, List.setIfInBounds_toArray, List.set_cons_zero, List.set_cons_succ]
  refine takeH 17 (v := ?_) rfl (by kernel_rfl) (by kernel_rfl) (by kernel_rfl) (fun _ _ _ h => h) (by rfl) hS ?_ ?_
  rotate_left
  · (intro wz hSw; clear hSw; go_simp; try with_reducible rfl)
  try simp only [Act.put, List.setIfInBounds_toArray, List.set_cons_zero, List.set_cons_succ]
  refine takeH 15 rfl (by kernel_rfl) (by kernel_rfl) (by kernel_rfl) (fun _ _ _ h => h) (by rfl) hS (load_expr (.tmp 12) rfl ge 0 rfl L (fun w h => h.e.range)) ?_
  try simp only [Act.put, List.setIfInBounds_toArray, List.set_cons_zero, List.set_cons_succ]
  refine takeH 18 rfl (by kernel_rfl) (by kernel_rfl) (by kernel_rfl) (fun _ _ _ h => h) (by rfl) hS (load_expr (.tmp 103) rfl ga 16 rfl LA.inv (fun w h => cs_inv h.e.pa h.e.ba)) ?_
  try simp only [Act.put, List.setIfInBounds_toArray, List.set_cons_zero, List.set_cons_succ]
  refine callH 16 rfl (by kernel_rfl) (fun K hK => ?_)
  go_simp
  go_wp2_with (go_at_call 14; refine (hd3.out _ hS).mono ?_; rintro e U23 ⟨rfl, hB⟩)
  refine hK.out _ _ (hS.new hB) (fun hSn => ?_)
  clear hK K hS
  have hS := hSn
  clear hSn
  refine callH 19 rfl (by kernel_rfl) (fun K hK => ?_)
  go_simp
  go_wp2_with (go_at_call 14; refine (hd4.out _ hS).mono ?_; rintro e U24 ⟨rfl, hB⟩)
  refine hK.out _ _ (hS.new hB) (fun hSn => ?_)
  clear hK K hS
  have hS := hSn
  clear hSn
  refine takeH 20 (v := ?_) rfl (by kernel_rfl) (by kernel_rfl) (by kernel_rfl) (fun _ _ _ h => h) (by rfl) hS ?_ ?_
  rotate_left
  · (intro wz hSw; clear hSw; go_simp; try with_reducible rfl)
  try simp only [Act.put, List.setIfInBounds_toArray, List.set_cons_zero, List.set_cons_succ]
  refine takeH 21 (v := ?_) rfl (by kernel_rfl) (by kernel_rfl) (by kernel_rfl) (fun _ _ _ h => h) (by rfl) hS ?_ ?_
  rotate_left
  · (intro wz hSw; clear hSw; go_simp; try with_reducible rfl)
  try simp only [Act.put, List.setIfInBounds_toArray, List.set_cons_zero, List.set_cons_succ]
  refine wpAnyH_done (by kernel_rfl) ?_ _
  clear hd1 hd2 hd3 hd4
  rename World => Z9
  have n0 : (n : Int) ≤ 20000 := by omega
  have hr1 := Reads.of_own hS.r1
  have hr2 := Reads.of_own hS.r2
  have hbe := hS.e.be
  replace hbe := Lib.hid hbe
  have hr1' := Lib.hid hr1
  have hr2' := Lib.hid hr2
  clear hS hr1 hr2
  go_wp2_with fail
  go_loopw [110] (fun v110 wr => ∃ k : Nat, v110 = .int .i64 k ∧ k ≤ n ∧ Below Z9.heap.size Z9 wr) (fun v110 _ => n - (intOf v110).toNat)
  case atStart => exact ⟨0, rfl, Nat.zero_le _, Below.refl _ _⟩
  case round =>
    obtain ⟨k, rfl, hk, hB⟩ := hrel
    have k0 : 0 ≤ (k : Int) := by omega
    by_cases hlt : k < n
    · have hx : ns[k]? = some (ns[k]'(by have := hn.out; omega)) := List.getElem?_eq_getElem (by have := hn.out; omega)
      generalize ns[k]'(by have := hn.out; omega) = s at hx
      have hy : ms[k]? = some (chg fr sNew s) := by rw [hms.out, List.getElem?_map, hx]; rfl
      obtain ⟨ad, hA, _, hcx, hab⟩ := Reads.str (hr1'.out.below hB) hx
      obtain ⟨bd, hA', _, hcy, hbb⟩ := Reads.str (hr2'.out.below hB) hy
      have k1' : (k : Int) < (n : Int) := by omega
      subst hA
      subst hA'
      replace hx := Lib.hid hx
      replace hy := Lib.hid hy
      obtain ⟨q, hq⟩ : ∃ q, (s.toList == fr.toList) = q := ⟨_, rfl⟩
      cases q
      · have hc : chg fr sNew s = s := by unfold chg; rw [hq]; simp
        rw [hc] at hcy
        replace hc := Lib.hid hc
        go_wp2_with fail
        go_roundw
        case rel => exact ⟨k + 1, by go_num, by omega, hB⟩
        case measure => simp [intOf]; omega
      · have hc : chg fr sNew s = ⟨#[110, 101, 119]⟩ := by unfold chg; rw [hq]; simp [sNew]
        rw [hc] at hcy
        replace hc := Lib.hid hc
        go_wp2_with fail
        go_roundw
        case rel => exact ⟨k + 1, by go_num, by omega, hB⟩
        case measure => simp [intOf]; omega
    · obtain rfl : n = k := by omega
      go_wp2_with fail
      go_ret
      exact ⟨rfl, below_and hbe.out hB⟩
end Go.Proofs.Ytnldbplphgfpeaa
