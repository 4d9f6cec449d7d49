/- The maker: leaf. -/
import Derived.Test.YtnldbplphgfpeaaTMl
namespace Go.Proofs.Ytnldbplphgfpeaa
open Go Go.RowKit Go.Shelf
set_option linter.unusedVariables false
set_option linter.unusedSimpArgs false
set_option maxHeartbeats 4000000
/-- The declarations that leaf has gathered. -/
def LfA (w : World) (l : List Dc) (v : Value) (wx : World) : Prop :=
  ∃ A c, v = .slice A l.length c ∧ wx.ownsRow (w.heap.size + 1) 60 3 (.slice A l.length c) l.length (cellsD l) ∧ Blk wx w.heap.size 30 #[.int .u8 0, .int .u8 0, .int .u32 0, .int .i64 0, .string ⟨#[]⟩, .slice none 0 0] ∧ Below w.heap.size w wx
theorem shut_mk {p : Prop} (h : p) : Shut p := h
theorem bits_and (k8 width : Nat) (h8 : k8 < 8) (h1 : 1 ≤ width) (h3 : width ≤ 3) : bits BinOp.and IntKind.u32 (k8 : Int) ((2 ^ width - 1) % 4294967296) = ((k8 &&& (2 ^ width - 1) : Nat) : Int) := by
  have hw : width = 1 ∨ width = 2 ∨ width = 3 := by omega
  have hk : k8 = 0 ∨ k8 = 1 ∨ k8 = 2 ∨ k8 = 3 ∨ k8 = 4 ∨ k8 = 5 ∨ k8 = 6 ∨ k8 = 7 := by omega
  rcases hw with rfl | rfl | rfl <;> rcases hk with rfl | rfl | rfl | rfl | rfl | rfl | rfl | rfl <;> decide
theorem append_decls {w w1 : World} {l m : List Dc} {A : Option Addr} {c : Nat} {v1 : Value} {wx : World} (hb : Blk wx w.heap.size 30 #[.int .u8 0, .int .u8 0, .int .u32 0, .int .i64 0, .string ⟨#[]⟩, .slice none 0 0]) (hB : Below w.heap.size w wx)
    (ho : wx.ownsRow (w.heap.size + 1) 60 3 (.slice A l.length c) l.length (cellsD l)) (ho1 : w1.ownsRow (w.heap.size + 1) 60 3 v1 (l.length + m.length) (cellsD l ++ cellsD m)) (hg : wx.grownBy w1 (Value.slice A l.length c).ownBlock) : LfA w (l ++ m) v1 w1 := by
  obtain ⟨A', c', rfl⟩ := own_form ho1
  refine ⟨A', c', by rw [List.length_append], by rw [List.length_append, cellsD_append]; exact ho1, hb.grown hg (fun e => ?_), hB.grown hg hB.size (fun k hk => ?_)⟩
  · have := (ho.lt _ e.symm).1; omega
  · have := (ho.lt k hk).1; omega
set_option maxRecDepth 100000 in
theorem leaf_ok (width wh : Nat) (hw1 : 1 ≤ width) (hw3 : width ≤ 3) (hwh : wh ≤ 2) {B M : Nat} {cs : Array Value} {d : Rd} {e : Ev} {r : List Nat} {w : World} (h : Mk B w M cs d e r) (hB : B ≤ w.heap.size) :
    Calls Try.prog 68 #[.pointer (some ⟨M, 0, none⟩), .int .i64 width, .int .i64 wh] w fun x w' => ∃ hd : Hd, x = .returned (.agg #[.int .u8 hd.kd, .int .u8 hd.op, .int .u32 hd.va, .int .i64 hd.wd, .string hd.nm, .slice none 0 0]) ∧
      Ex.mk hd () [] = (leafM e.p width wh r).1 ∧ Mk B w' M cs d e (leafM e.p width wh r).2 ∧ Only [M] w w' := by
  obtain ⟨i0, hi, hz0, hz1, hz2⟩ := info_parts infoDecl
  have hB0 := (Below.refl w.heap.size w).alloc (Nat.le_refl _) (.cells #[.int .u8 0, .int .u8 0, .int .u32 0, .int .i64 0, .string ⟨#[]⟩, .slice none 0 0] 30)
  have hb0 := Blk.new w 30 #[.int .u8 0, .int .u8 0, .int .u32 0, .int .i64 0, .string ⟨#[]⟩, .slice none 0 0]
  obtain ⟨lf, hlf⟩ : ∃ lf, lf = leafM e.p width wh r := ⟨_, rfl⟩
  rw [← hlf]
  replace hlf := Lib.hid hlf
  have hMl := h.nx.lt_size
  have hni := h.st.ni
  have hng := h.st.ng
  have hnv := h.st.nv
  replace h := Lib.hid h
  replace hi := Lib.hid hi
  replace hz0 := Lib.hid hz0
  replace hz1 := Lib.hid hz1
  replace hz2 := Lib.hid hz2
  go_enter Try.func68, Try.ntmps68
  go_upto_region 2 with (fail)
  have hs0 : (w.alloc (.cells #[.int .u8 0, .int .u8 0, .int .u32 0, .int .i64 0, .string ⟨#[]⟩, .slice none 0 0] 30)).heap.size = w.heap.size + 1 := by simp
  generalize w.alloc (.cells #[.int .u8 0, .int .u8 0, .int .u32 0, .int .i64 0, .string ⟨#[]⟩, .slice none 0 0] 30) = W0 at *
  have h0 := h.out.new hB hB0
  have q4 := h0.cell (by omega) h0.st.c4
  have hMl0 := h0.nx.lt_size
  have hcl := cloneDecl e.li e.p.ins.length (cellsD e.p.ins) W0 h0.st.ri (cellsD_one _) (by omega)
  replace hcl := Lib.hid hcl
  replace h0 := Lib.hid h0
  replace hs0 := Lib.hid hs0
  go_wp2_with fail
  refine hcl.out.mono ?_
  rintro x W1 ⟨⟨A1, c1⟩, rfl, hown1, hB1⟩
  have hL1 : LfA w e.p.ins (.slice A1 e.p.ins.length c1) W1 := ⟨A1, c1, rfl, by rw [← hs0.out]; exact hown1, hb0.below hB1 hb0.lt, below_and hB0 hB1⟩
  clear hcl q4 h0 hMl0 hown1 hB1 hb0 hB0 hs0
  obtain ⟨q1, e1⟩ : ∃ q, ((wh : Int) != 1) = q := ⟨_, rfl⟩
  obtain ⟨q2, e2⟩ : ∃ q, ((wh : Int) == 0) = q := ⟨_, rfl⟩
  go_upto_if 19 with (fail)
  have hq1 := Lib.hid e1
  have hq2 := Lib.hid e2
  clear e1
  obtain ⟨L2, hL2⟩ : ∃ L2, L2 = e.p.ins ++ (if q1 = true then e.p.gh else []) := ⟨_, rfl⟩
  have hL2n : L2.length ≤ 4 := by
    rw [hL2, List.length_append]
    split
    · omega
    · simp; omega
  replace hL2 := Lib.hid hL2
  go_cut [8] from 20 to 26 (fun v8 wx => LfA w L2 v8 wx)
  case first =>
    cases q1
    · replace hL1 := Lib.hid hL1
      go_wp2_with fail
      go_meet
      rw [hL2.out, if_neg (by simp), List.append_nil]
      exact hL1.out
    · obtain ⟨A2, c2, ev, hown, hb, hBw⟩ := hL1
      injection ev with ev _ ev3
      subst ev
      subst ev3
      have hM1 := h.out.new hB hBw
      have q5 := hM1.cell (by omega) hM1.st.c5
      have hMl1 := hM1.nx.lt_size
      have hrd := hM1.st.rg.reads (by omega)
      replace hM1 := Lib.hid hM1
      replace hb := Lib.hid hb
      replace hBw := Lib.hid hBw
      go_wp2_with (at_builtin; refine wpList_append_any _ rfl (.tmp 20) (.tmp 25) 24 rfl (w.heap.size + 1) 60 i0 _ 3 32 Try.underlying24 hi.out hz0.out hz1.out hz2.out rfl (by omega) (.slice A1 e.p.ins.length c1) e.p.ins.length (cellsD e.p.ins) rfl hown W1.heap.size e.lg.A e.p.gh.length e.lg.c (cellsD e.p.gh) rfl hrd (cellsD_one _) (by simp only [maxLen]; omega) (by omega) (by have := hb.out.lt; omega) ?_; intro v1 w1 hown1 hg1 _)
      go_meet
      rw [hL2.out, if_pos (by simp)]
      exact append_decls hb.out hBw.out hown hown1 hg1
  case rest =>
  clear hL1
  obtain ⟨A2, c2, ev, hown2, hb2, hB2⟩ := hcut
  subst ev
  obtain ⟨L3, hL3⟩ : ∃ L3, L3 = L2 ++ (if q2 = true then e.p.va ++ (if e.p.param = true then [⟨sX, e.p.w, 0⟩] else []) else []) := ⟨_, rfl⟩
  have hL3n : L3.length ≤ 7 := by
    rw [hL3, List.length_append]
    split
    · rw [List.length_append]
      split
      · simp; omega
      · simp; omega
    · simp; omega
  replace hL3 := Lib.hid hL3
  go_upto_if 28 with (fail)
  clear e2
  go_cut [8] from 29 to 48 (fun v8 wx => LfA w L3 v8 wx)
  case first =>
    cases q2
    · replace hb2 := Lib.hid hb2
      replace hB2 := Lib.hid hB2
      go_wp2_with fail
      go_meet
      rw [hL3.out, if_neg (by simp), List.append_nil]
      exact ⟨A2, c2, rfl, hown2, hb2.out, hB2.out⟩
    · have hM1 := h.out.new hB hB2
      have q6 := hM1.cell (by omega) hM1.st.c6
      have q24 := hM1.cell (by omega) hM1.st.c24
      have hMl1 := hM1.nx.lt_size
      have hrd := hM1.st.rv.reads (by omega)
      replace hM1 := Lib.hid hM1
      replace hb2 := Lib.hid hb2
      replace hB2 := Lib.hid hB2
      go_upto_region 7 with (at_builtin; refine wpList_append_any _ rfl (.tmp 29) (.tmp 34) 24 rfl (w.heap.size + 1) 60 i0 _ 3 32 Try.underlying24 hi.out hz0.out hz1.out hz2.out rfl (by omega) (.slice A2 L2.length c2) L2.length (cellsD L2) rfl hown2 wc.heap.size e.lv.A e.p.va.length e.lv.c (cellsD e.p.va) rfl hrd (cellsD_one _) (by simp only [maxLen]; omega) (by omega) (by have := hb2.out.lt; omega) ?_; intro v1 w1 hown1 hg1 _)
      obtain ⟨A3, c3, e3, hown3, hb3, hB3⟩ := append_decls hb2.out hB2.out hown2 hown1 hg1
      subst e3
      clear q6 q24 hM1 hMl1 hrd hown1 hg1
      have hM1 := h.out.new hB hB3
      have q3 := hM1.cell (by omega) hM1.st.c3
      have q24 := hM1.cell (by omega) hM1.st.c24
      have hMl1 := hM1.nx.lt_size
      replace hM1 := Lib.hid hM1
      replace hb3 := Lib.hid hb3
      replace hB3 := Lib.hid hB3
      obtain ⟨pp, hpp⟩ : ∃ pp, pp = e.p.param := ⟨_, rfl⟩
      rw [← hpp] at q24
      replace hpp := Lib.hid hpp
      cases pp
      · go_wp2_with fail
        go_meet
        rw [hL3.out, if_pos (by simp), if_neg (by rw [← hpp.out]; simp), List.append_nil]
        exact ⟨A3, c3, by simp, hown3, hb3.out, hB3.out⟩
      · have hBx := (Below.refl _ w1).alloc (Nat.le_refl _) (.cells #[.string ⟨#[120]⟩, .int .i64 e.p.w, .int .i64 0] 60)
        have hrd := Reads.of_own (World.ownsRow_lit (base := w1.heap.size) (e := 60) (size := 3) w1 #[.string ⟨#[120]⟩, .int .i64 e.p.w, .int .i64 0] 1 (Nat.le_refl _) (by simp [maxLen]) rfl)
        have hb4 := hb3.out.alloc (.cells #[.string ⟨#[120]⟩, .int .i64 e.p.w, .int .i64 0] 60)
        have hB4 := below_and hB3.out hBx
        have hown4 := own_only hown3 (only_of_below [] hBx) (by simp)
        have hsz4 := hb4.lt
        replace hb4 := Lib.hid hb4
        replace hB4 := Lib.hid hB4
        go_wp2_with (at_builtin; refine wpList_append_any _ rfl (.tmp 40) (.tmp 47) 24 rfl (w.heap.size + 1) 60 i0 _ 3 32 Try.underlying24 hi.out hz0.out hz1.out hz2.out rfl (by omega) (.slice A3 (L2 ++ e.p.va).length c3) (L2 ++ e.p.va).length (cellsD (L2 ++ e.p.va)) rfl hown4 _ (some ⟨w1.heap.size, 0, none⟩) 1 1 (cellsD [⟨sX, e.p.w, 0⟩]) rfl hrd (cellsD_one _) (by simp only [maxLen, List.length_append]; omega) (by simp only [List.length_append]; omega) (by omega) ?_; intro v2 w2 hown5 hg5 _)
        go_meet
        rw [hL3.out, if_pos (by simp), if_pos (by rw [← hpp.out]), ← List.append_assoc]
        exact append_decls (m := [⟨sX, e.p.w, 0⟩]) hb4.out hB4.out hown4 hown5 hg5
  case rest =>
  have hL3e : L3 = alls e.p wh := by
    rw [hL3.out, hL2.out]
    unfold alls
    have e1 := hq1.out
    have e2 := hq2.out
    have h1 : (q1 = true) ↔ wh ≠ 1 := by rw [← e1]; simp; omega
    have h2 : (q2 = true) ↔ wh = 0 := by rw [← e2]; simp
    simp only [h1, h2, List.append_assoc]
  clear hL2 hL3 hq1 hq2 hown2 hb2 hB2 hL2n
  obtain ⟨A4, c4, ev, hown4, hb4, hB4⟩ := hcut
  subst ev
  obtain ⟨n3, hn3⟩ : ∃ n, n = L3.length := ⟨_, rfl⟩
  have hrow4 := own_row (l := ⟨A4, c4⟩) hown4
  rw [← hn3] at hL3n
  rw [← hn3]
  have hcap : (n3 : Int) ≤ 7 := by omega
  replace hn3 := Lib.hid hn3
  replace hL3e := Lib.hid hL3e
  rename World => W2
  have hRl := hb4.lt
  obtain ⟨is, his, hsz0, hsz1, hsz2⟩ := info_parts infoStr
  replace his := Lib.hid his
  replace hsz0 := Lib.hid hsz0
  replace hsz1 := Lib.hid hsz1
  replace hsz2 := Lib.hid hsz2
  go_wp2_with fail
  go_loopw [7, 51] (fun v7 i wx => ∃ (k : Nat) (A : Option Addr) (c : Nat), i = .int .i64 k ∧ k ≤ n3 ∧ v7 = .slice A (namesOf (L3.take k) width).length c ∧ wx.ownsRow W2.heap.size 9 1 (.slice A (namesOf (L3.take k) width).length c) (namesOf (L3.take k) width).length (strs (namesOf (L3.take k) width)) ∧ Below W2.heap.size W2 wx) (fun _ i _ => n3 - (intOf i).toNat)
  case atStart => exact ⟨0, none, 0, rfl, Nat.zero_le _, rfl, World.ownsRow_nil _ _ _ _, Below.refl _ _⟩
  case round =>
    obtain ⟨k, A, c, rfl, hk, rfl, hown, hB5⟩ := hrel
    have k0 : 0 ≤ (k : Int) := by omega
    by_cases hlt : k < n3
    · have hx : L3[k]? = some (L3[k]'(by have := hn3.out; omega)) := List.getElem?_eq_getElem (by have := hn3.out; omega)
      generalize L3[k]'(by have := hn3.out; omega) = x at hx
      obtain ⟨ad, hA, _, hcx⟩ := RowIn.dc (hrow4.all (keeps_below hB5)) hx
      have hnext : namesOf (L3.take (k + 1)) width = namesOf (L3.take k) width ++ (if x.wd == (width : Int) then [x.nm] else []) := by
        obtain ⟨h1, h2⟩ := List.getElem?_eq_some_iff.1 hx
        unfold namesOf
        rw [List.take_succ_eq_append_getElem h1, h2, List.filter_append, List.map_append]
        congr 1
        by_cases hw : x.wd == (width : Int) <;> simp [List.filter, hw]
      have hlen : (namesOf (L3.take k) width).length ≤ 7 := by
        unfold namesOf
        rw [List.length_map]
        have h1 := List.length_filter_le (fun d : Dc => d.wd == (width : Int)) (L3.take k)
        rw [List.length_take] at h1
        omega
      obtain ⟨ns, hns⟩ : ∃ ns, ns = namesOf (L3.take k) width := ⟨_, rfl⟩
      rw [← hns] at hown hlen hnext ⊢
      obtain ⟨xn, xw, xs⟩ := x
      dsimp only at hnext
      obtain ⟨d0, d1, d2⟩ := CellsAt.c3 hcx
      dsimp only at hA
      subst hA
      have k1 : (k : Int) < (n3 : Int) := by omega
      have hab := cell_lt d0
      obtain ⟨q, hq⟩ : ∃ q, (xw == (width : Int)) = q := ⟨_, rfl⟩
      rw [hq] at hnext
      have hBx := (Below.refl _ wr).alloc (Nat.le_refl _) (.cells #[.string xn, .int .i64 xw, .int .i64 xs] 60)
      replace hnext := Lib.hid hnext
      replace hns := Lib.hid hns
      replace hx := Lib.hid hx
      cases q
      · have hownx := own_only hown (only_of_below [] hBx) (by simp)
        replace hownx := Lib.hid hownx
        have hB6 := below_and hB5 hBx
        replace hB6 := Lib.hid hB6
        go_wp2_with fail
        go_roundw
        case rel =>
          have e1 : namesOf (L3.take (k + 1)) width = ns := by rw [hnext.out, if_neg (by simp), List.append_nil]
          refine ⟨k + 1, A, c, by go_num, by omega, ?_, ?_, hB6.out⟩
          · rw [e1]
          · rw [e1]; exact hownx.out
        case measure => simp [intOf]; omega
      · have hBx2 := hBx.alloc (by simp) (.cells #[.string xn] 9)
        have hownx := own_only hown (only_of_below [] hBx2) (by simp)
        have hrd := Reads.of_own (World.ownsRow_lit (base := 0) (e := 9) (size := 1) (wr.alloc (.cells #[.string xn, .int .i64 xw, .int .i64 xs] 60)) #[.string xn] 1 (Nat.zero_le _) (by simp [maxLen]) rfl)
        simp only [World.size_alloc] at hrd
        have hB6 := below_and hB5 hBx2
        have hs6 := hB6.size
        replace hB6 := Lib.hid hB6
        go_wp2_with (at_builtin; refine wpList_append_any _ rfl (.tmp 59) (.tmp 62) 53 rfl W2.heap.size 9 is _ 1 16 Try.underlying53 his.out hsz0.out hsz1.out hsz2.out rfl (by omega) (.slice A ns.length c) ns.length (strs ns) rfl hownx _ (some ⟨wr.heap.size + 1, 0, none⟩) 1 1 (strs [xn]) rfl hrd (strs_one _) (by simp only [maxLen]; omega) (by omega) hs6 ?_; intro v2 w2 hown5 hg5 _)
        go_roundw
        case rel =>
          have e1 : namesOf (L3.take (k + 1)) width = ns ++ [xn] := by rw [hnext.out, if_pos (by simp)]
          obtain ⟨A', c', rfl⟩ := own_form hown5
          refine ⟨k + 1, A', c', by go_num, by omega, ?_, ?_, hB6.out.grown hg5 hs6 (fun q hq => (hownx.lt q hq).1)⟩
          · rw [e1, List.length_append]; rfl
          · rw [e1, List.length_append]
            exact own_cast hown5 rfl (by simp [strs])
        case measure => simp [intOf]; omega
    · obtain rfl : k = n3 := by omega
      have hall : L3.take k = L3 := by rw [hn3.out, List.take_length]
      obtain ⟨ns, hns⟩ : ∃ ns, ns = namesOf (alls e.p wh) width := ⟨_, rfl⟩
      rw [hall, hL3e.out, ← hns] at hown ⊢
      have hnl : ns.length ≤ 7 := by
        rw [hns]; unfold namesOf
        rw [List.length_map]
        rw [← hL3e.out]
        have h1 := List.length_filter_le (fun d : Dc => d.wd == (width : Int)) L3
        have h3 := hn3.out
        omega
      have hBw := below_and hB4 hB5
      have hM := h.out.new hB hBw
      have hnxt := nextM 8 (by omega) (by omega) hM (Nat.le_trans hB hBw.size)
      have hn8 := nx_lt (n := 8) (by omega) r
      have hbR := hb4.below hB5 hb4.lt
      have hlf' := hlf.out
      unfold leafM at hlf'
      rw [← hns] at hlf'
      obtain ⟨p8, hp8⟩ : ∃ p, p = nx 8 r := ⟨_, rfl⟩
      rw [← hp8] at hnxt hn8 hlf'
      obtain ⟨k8, r8⟩ := p8
      dsimp only at hnxt hn8 hlf'
      replace hnxt := Lib.hid hnxt
      replace hlf' := Lib.hid hlf'
      replace hns := Lib.hid hns
      replace hp8 := Lib.hid hp8
      replace hall := Lib.hid hall
      replace hB5 := Lib.hid hB5
      replace hB4 := Lib.hid hB4
      rename World => W5
      have hMB := h.out.nx.MB
      have hown' := Lib.hid hown
      clear hown
      have hwz : W2.heap.size ≤ W5.heap.size := hB5.out.size
      have hww : w.heap.size ≤ W2.heap.size := hB4.out.size
      have hwzz : w.heap.size ≤ W5.heap.size := by omega
      by_cases hc : 2 < k8 ∧ 0 < ns.length
      · rw [if_pos hc] at hlf'
        obtain ⟨hc1, hc2⟩ := hc
        obtain ⟨j, hj⟩ : ∃ j, j = k8 % ns.length := ⟨_, rfl⟩
        have hjl : j < ns.length := by rw [hj]; exact Nat.mod_lt _ hc2
        have hji : (k8 : Int) % (ns.length : Int) = (j : Int) := by rw [hj]; rfl
        rw [← hj] at hlf'
        have hx : ns[j]? = some (ns[j]'hjl) := List.getElem?_eq_getElem hjl
        rw [hx] at hlf'
        generalize ns[j]'hjl = s at hx hlf'
        have hown6 := fun W6 (hO6 : Only [M] W5 W6) => Reads.str (Reads.of_own (own_only hown'.out hO6 (fun k hk hm => by have := (hown'.out.lt k hk).1; simp at hm; omega))) hx
        have hc1i : (2 : Int) < (k8 : Int) := by omega
        have hc2i : (0 : Int) < (ns.length : Int) := by omega
        have hjli : (j : Int) < (ns.length : Int) := by omega
        have j0 : 0 ≤ (j : Int) := by omega
        replace hj := Lib.hid hj
        replace hx := Lib.hid hx
        replace hown6 := Lib.hid hown6
        replace hlf' := Lib.hid hlf'
        go_wp2_with (go_at_call 32; refine hnxt.out.mono ?_; rintro x W6 ⟨rfl, hM6, hO6⟩; obtain ⟨ad6, hA6, _, hc6, hl6⟩ := hown6.out W6 hO6; subst hA6)
        refine (name_ok s W6).mono ?_
        rintro x W7 ⟨rfl, hB7⟩
        have hbR7 := (hbR.only hO6 (by simp; omega)).below hB7 (hbR.only hO6 (by simp; omega)).lt
        have hM7 := hM6.new (by have := hO6.size; omega) hB7
        have hO7 : Only [M] w W7 := ((only_of_below [M] hBw).trans hO6).new hB7
        have hO8 := only_setCells (b := w.heap.size) [.int .u8 2, .int .u8 0, .int .u32 0, .int .i64 0, .string s, .slice none 0 0] 0 W7
        have hbf : Blk (W7.setCells w.heap.size 0 [.int .u8 2, .int .u8 0, .int .u32 0, .int .i64 0, .string s, .slice none 0 0]) w.heap.size 30 #[.int .u8 2, .int .u8 0, .int .u32 0, .int .i64 0, .string s, .slice none 0 0] := blk_setCells [.int .u8 2, .int .u8 0, .int .u32 0, .int .i64 0, .string s, .slice none 0 0] [.int .u8 0, .int .u8 0, .int .u32 0, .int .i64 0, .string ⟨#[]⟩, .slice none 0 0] [] [] 0 W7 hbR7 rfl rfl
        have hM8 := hM7.below (hO8.below (B := B) (by have := hO7.size; omega) (by simp; omega))
        have hO9 := hO7.then hO8 (fun i hi hl => by simp at hi; omega)
        replace hM8 := Lib.hid hM8
        replace hO9 := Lib.hid hO9
        replace hbf := Lib.hid hbf
        clear hO8
        go_wp2_with (refine wpList_store_mid rfl 30 (.tmp 6) (.tmp 81) rfl w.heap.size 0 #[.int .u8 2, .int .u8 0, .int .u32 0, .int .i64 0, .string s, .slice none 0 0] rfl rfl (there_blk_at hbR7 (by simp)) (by kernel_rfl) (by simp [Value.oneCell']) ?_; refine Shut.out ?_)
        refine shut_mk ?_
        refine wpList_nil ?_
        try simp only [Act.put, List.setIfInBounds_toArray, List.set_cons_zero, List.set_cons_succ]
        rename (∀ (a : Act) (w : World), Code.wp Try.prog Code.ret _ a w → _) => hkk
        refine hkk _ _ ?_
        refine wp_ret ?_
        simp only [Exit.then]
        refine bodyPost_ret (results_cell_row rfl _ _ w.heap.size 30 _ (0, 0) _ rfl hbf.out Try.underlying30 rfl (by kernel_rfl)) rfl ?_
        exact ⟨⟨2, 0, 0, 0, s⟩, rfl, by rw [hlf'.out]; rfl, by rw [hlf'.out]; exact hM8.out, hO9.out⟩
      · rw [if_neg hc] at hlf'
        have hval := bits_and k8 width hn8 hw1 hw3
        have hcc : ¬ ((2 : Int) < (k8 : Int)) ∨ ¬ ((0 : Int) < (ns.length : Int)) := by omega
        obtain ⟨v, hv⟩ : ∃ v : Nat, v = k8 &&& (2 ^ width - 1) := ⟨_, rfl⟩
        rw [← hv] at hval hlf'
        have hval' := Lib.hid hval
        replace hv := Lib.hid hv
        replace hlf' := Lib.hid hlf'
        replace hc := Lib.hid hc
        clear hval
        have hfin : ∀ W6, Mk B W6 M cs d e r8 → Only [M] W5 W6 → ∀ W7, Below W6.heap.size W6 W7 → Blk W7 w.heap.size 30 #[.int .u8 0, .int .u8 0, .int .u32 0, .int .i64 0, .string ⟨#[]⟩, .slice none 0 0] ∧ Mk B (W7.setCells w.heap.size 0 [.int .u8 1, .int .u8 0, .int .u32 v, .int .i64 width, .string ⟨#[]⟩, .slice none 0 0]) M cs d e r8 ∧
            Only [M] w (W7.setCells w.heap.size 0 [.int .u8 1, .int .u8 0, .int .u32 v, .int .i64 width, .string ⟨#[]⟩, .slice none 0 0]) ∧ Blk (W7.setCells w.heap.size 0 [.int .u8 1, .int .u8 0, .int .u32 v, .int .i64 width, .string ⟨#[]⟩, .slice none 0 0]) w.heap.size 30 #[.int .u8 1, .int .u8 0, .int .u32 v, .int .i64 width, .string ⟨#[]⟩, .slice none 0 0] := fun W6 hM6 hO6 W7 hB7 => by
          have hbR7 := (hbR.only hO6 (by simp; omega)).below hB7 (hbR.only hO6 (by simp; omega)).lt
          have hM7 := hM6.new (by have := hO6.size; omega) hB7
          have hO7 : Only [M] w W7 := ((only_of_below [M] hBw).trans hO6).new hB7
          have hO8 := only_setCells (b := w.heap.size) [.int .u8 1, .int .u8 0, .int .u32 v, .int .i64 width, .string ⟨#[]⟩, .slice none 0 0] 0 W7
          exact ⟨hbR7, hM7.below (hO8.below (B := B) (by have := hO7.size; omega) (by simp; omega)), hO7.then hO8 (fun i hi hl => by simp at hi; omega), blk_setCells [.int .u8 1, .int .u8 0, .int .u32 v, .int .i64 width, .string ⟨#[]⟩, .slice none 0 0] [.int .u8 0, .int .u8 0, .int .u32 0, .int .i64 0, .string ⟨#[]⟩, .slice none 0 0] [] [] 0 W7 hbR7 rfl rfl⟩
        replace hfin := Lib.hid hfin
        rcases hcc with hcc | hcc
        · go_wp2_with (go_at_call 32; refine hnxt.out.mono ?_; rintro x W6 ⟨rfl, hM6, hO6⟩)
          rw [hval'.out]
          refine (num_ok _ _ W6).mono ?_
          rintro x W7 ⟨rfl, hB7⟩
          obtain ⟨hbR7, hM8, hO9, hbf⟩ := hfin.out W6 hM6 hO6 W7 hB7
          replace hM8 := Lib.hid hM8
          replace hO9 := Lib.hid hO9
          replace hbf := Lib.hid hbf
          go_wp2_with (refine wpList_store_mid rfl 30 (.tmp 6) (.tmp 89) rfl w.heap.size 0 #[.int .u8 1, .int .u8 0, .int .u32 v, .int .i64 width, .string ⟨#[]⟩, .slice none 0 0] rfl rfl (there_blk_at hbR7 (by simp)) (by kernel_rfl) (by simp [Value.oneCell']) ?_; refine Shut.out ?_)
          refine shut_mk ?_
          refine wpList_nil ?_
          try simp only [Act.put, List.setIfInBounds_toArray, List.set_cons_zero, List.set_cons_succ]
          rename (∀ (a : Act) (w : World), Code.wp Try.prog Code.ret _ a w → _) => hkk
          refine hkk _ _ ?_
          refine wp_ret ?_
          refine bodyPost_ret (results_cell_row rfl _ _ w.heap.size 30 _ (0, 0) _ rfl hbf.out Try.underlying30 rfl (by kernel_rfl)) rfl ?_
          exact ⟨⟨1, 0, v, width, ⟨#[]⟩⟩, rfl, by rw [hlf'.out]; rfl, by rw [hlf'.out]; exact hM8.out, hO9.out⟩
        · by_cases hc1 : (2 : Int) < (k8 : Int)
          · go_wp2_with (go_at_call 32; refine hnxt.out.mono ?_; rintro x W6 ⟨rfl, hM6, hO6⟩)
            rw [hval'.out]
            refine (num_ok _ _ W6).mono ?_
            rintro x W7 ⟨rfl, hB7⟩
            obtain ⟨hbR7, hM8, hO9, hbf⟩ := hfin.out W6 hM6 hO6 W7 hB7
            replace hM8 := Lib.hid hM8
            replace hO9 := Lib.hid hO9
            replace hbf := Lib.hid hbf
            go_wp2_with (refine wpList_store_mid rfl 30 (.tmp 6) (.tmp 89) rfl w.heap.size 0 #[.int .u8 1, .int .u8 0, .int .u32 v, .int .i64 width, .string ⟨#[]⟩, .slice none 0 0] rfl rfl (there_blk_at hbR7 (by simp)) (by kernel_rfl) (by simp [Value.oneCell']) ?_; refine Shut.out ?_)
            refine shut_mk ?_
            refine wpList_nil ?_
            try simp only [Act.put, List.setIfInBounds_toArray, List.set_cons_zero, List.set_cons_succ]
            rename (∀ (a : Act) (w : World), Code.wp Try.prog Code.ret _ a w → _) => hkk
            refine hkk _ _ ?_
            refine wp_ret ?_
            refine bodyPost_ret (results_cell_row rfl _ _ w.heap.size 30 _ (0, 0) _ rfl hbf.out Try.underlying30 rfl (by kernel_rfl)) rfl ?_
            exact ⟨⟨1, 0, v, width, ⟨#[]⟩⟩, rfl, by rw [hlf'.out]; rfl, by rw [hlf'.out]; exact hM8.out, hO9.out⟩
          · go_wp2_with (go_at_call 32; refine hnxt.out.mono ?_; rintro x W6 ⟨rfl, hM6, hO6⟩)
            rw [hval'.out]
            refine (num_ok _ _ W6).mono ?_
            rintro x W7 ⟨rfl, hB7⟩
            obtain ⟨hbR7, hM8, hO9, hbf⟩ := hfin.out W6 hM6 hO6 W7 hB7
            replace hM8 := Lib.hid hM8
            replace hO9 := Lib.hid hO9
            replace hbf := Lib.hid hbf
            go_wp2_with (refine wpList_store_mid rfl 30 (.tmp 6) (.tmp 89) rfl w.heap.size 0 #[.int .u8 1, .int .u8 0, .int .u32 v, .int .i64 width, .string ⟨#[]⟩, .slice none 0 0] rfl rfl (there_blk_at hbR7 (by simp)) (by kernel_rfl) (by simp [Value.oneCell']) ?_; refine Shut.out ?_)
            refine shut_mk ?_
            refine wpList_nil ?_
            try simp only [Act.put, List.setIfInBounds_toArray, List.set_cons_zero, List.set_cons_succ]
            rename (∀ (a : Act) (w : World), Code.wp Try.prog Code.ret _ a w → _) => hkk
            refine hkk _ _ ?_
            refine wp_ret ?_
            refine bodyPost_ret (results_cell_row rfl _ _ w.heap.size 30 _ (0, 0) _ rfl hbf.out Try.underlying30 rfl (by kernel_rfl)) rfl ?_
            exact ⟨⟨1, 0, v, width, ⟨#[]⟩⟩, rfl, by rw [hlf'.out]; rfl, by rw [hlf'.out]; exact hM8.out, hO9.out⟩
end Go.Proofs.Ytnldbplphgfpeaa
