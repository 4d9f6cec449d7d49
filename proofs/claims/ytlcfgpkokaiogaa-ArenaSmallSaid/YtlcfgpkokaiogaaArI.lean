/- Arenas: Get, Len, Lit. -/
import Derived.Test.YtlcfgpkokaiogaaArH
import Derived.Laws.ResultCell
import Derived.Lib.SliceRun
namespace Go.Proofs.Ytlcfgpkokaiogaa
open Go Go.RowKit
set_option linter.unusedVariables false
set_option linter.unusedSimpArgs false
set_option maxHeartbeats 4000000
theorem results_cell_tmp_row {P : Program} {fn : Func} {p u : Tmp} {ty : TypeId} (h : fn.results = #[.cell p ty, .tmp u]) (tmps : Array Value) (w : World) (g : Nat) (t : TypeId) (cs : Array Value) (fr : Nat × Nat) (d : TypeDesc)
    (hp : tmps.getD p undef = .pointer (some ⟨g, 0, none⟩)) (hg : w.heap[g]? = some (.cells cs t fr))
    (hu : P.underlying ty = some d) (hd : (match d with | .struct _ | .array _ _ => true | _ => false) = true) (hi : (P.info? ty).map (·.size) = some cs.size) :
    (results fn tmps).run P w = .ok (.tuple #[.agg cs, tmps.getD u undef]) w := by
  rw [results_cell_tmp h, hp]
  simp [asAddr, run_loadVar_row w g t ty cs fr d hg hu hd hi]
/-- What a clone is. -/
def Cloned (w : World) (n : Nat) (l : List Int) (e : Ending) (w' : World) : Prop := ∃ A' c', e = .returned (.slice A' n c') ∧ w'.ownsRow w.heap.size 30 1 (.slice A' n c') n (lits l) ∧ Below w.heap.size w w'
set_option maxRecDepth 100000 in
theorem clone_ok (A : Option Addr) (n c B : Nat) (l : List Int) (w : World) (hrd : Reads w B 1 A n (lits l)) (hB : B ≤ w.heap.size) (hn : n ≤ 1048576) :
    Calls Try.prog 41 #[.slice A n c] w (Cloned w n l) := by
  obtain ⟨i0, hi, hz0, hz1, hz2⟩ := info_parts info30
  cases A with
  | none =>
    have hm : n = 0 := by
      rcases Nat.eq_zero_or_pos n with h0 | h0
      · exact h0
      · obtain ⟨ad, h, _⟩ := hrd.2 h0
        cases h
    subst hm
    have hl : l = [] := by have := hrd.1; simpa [lits] using this
    subst hl
    have hq := fun wx => Lib.run_eql_slice_nil (P := Try.prog) wx 28 30 none 0 c 0 0 Try.underlying28
    go_enter Try.func41, Try.ntmps41
    go_wp2
    go_ret
    exact ⟨none, 0, rfl, World.ownsRow_nil _ _ _ _, Below.refl _ _⟩
  | some ad =>
    have hq := fun wx => Lib.run_eql_slice_nil (P := Try.prog) wx 28 30 (some ad) n c 0 0 Try.underlying28
    have hown0 : (w.alloc (.cells #[] 30)).ownsRow w.heap.size 30 1 (.slice (some ⟨w.heap.size, 0, none⟩) 0 0) 0 [] :=
      ⟨rfl, .inr ⟨_, 0, #[], rfl, Nat.le_refl _, Blk.new _ _ _, Nat.le_refl _, by unfold maxLen; omega, rfl, rfl⟩⟩
    go_enter Try.func41, Try.ntmps41
    go_wp2_with (at_builtin; refine wpList_append_any _ rfl _ _ 28 rfl w.heap.size 30 i0 _ 1 8 Try.underlying28 hi hz0 hz1 hz2 rfl (by omega) (.slice (some ⟨w.heap.size, 0, none⟩) 0 0) 0 [] rfl hown0 B (some ad) n c (lits l) rfl (hrd.alloc hB _) (by simp [lits, Value.oneCell']) (by simp only [maxLen]; omega) (by omega) (by simp) ?_; intro v' w3 hown hgrow hat; obtain ⟨A5, c5, rfl⟩ := own_form hown)
    go_ret
    refine ⟨A5, c5, by simp, by simpa using hown, ?_⟩
    refine ((Below.refl _ w).alloc (Nat.le_refl _) (.cells #[] 30)).grown hgrow (by simp) (fun k hk => ?_)
    have : w.heap.size = k := by simpa [Value.ownBlock] using hk
    omega
section
variable {w : World} {base d : Nat} {vs va : Value} {es : List En} {last : Nat}
set_option maxRecDepth 100000 in
theorem entry_no (h : Arm w base d vs va es last) (id : Int) (hn : look (als es) id = none) (hb : -9223372036854775808 ≤ id ∧ id ≤ 9223372036854775807) :
    Calls Try.prog 40 #[.pointer (some ⟨d, 0, none⟩), .int .i64 id] w fun r w' => r = .returned (.tuple #[.agg #[.int .i64 0, .int .i64 0, .int .i64 0, .bool false], .int .i64 30]) ∧ Below w.heap.size w w' := by
  have hA := (Below.refl _ w).alloc (Nat.le_refl _) (.cells #[.int .i64 0, .int .i64 0, .int .i64 0, .bool false] 76)
  have hf := find_no (h.new hA) id hn hb
  have hi := is_ok (h.new hA)
  have hb4 := Blk.new w 76 #[.int .i64 0, .int .i64 0, .int .i64 0, .bool false]
  have hls : w.heap.size < (w.alloc (.cells #[.int .i64 0, .int .i64 0, .int .i64 0, .bool false] 76)).heap.size := by simp
  clear h hn
  replace hf := Lib.hid hf
  replace hi := Lib.hid hi
  go_enter Try.func40, Try.ntmps40
  go_upto_region 1 with (fail)
  generalize w.alloc (.cells #[.int .i64 0, .int .i64 0, .int .i64 0, .bool false] 76) = W1 at *
  go_wp2_with (first
    | (go_at_call 35; refine hi.out.mono ?_; rintro e w' ⟨rfl, rfl⟩)
    | (go_at_call 37; refine hf.out.mono ?_; rintro e w' ⟨rfl, hB⟩; have hb5 := hb4.below hB hls; have x0 := hb5.cell 0; have x1 := hb5.cell 1; have x2 := hb5.cell 2; have x3 := hb5.cell 3; have z0 := hb5.frozen 0; have z1 := hb5.frozen 1; have z2 := hb5.frozen 2; have z3 := hb5.frozen 3; simp only [List.getElem?_toArray, List.getElem?_cons_zero, List.getElem?_cons_succ] at x0 x1 x2 x3))
  have hb9 := (((hb5.set_ 0 (.int .i64 0)).set_ 1 (.int .i64 0)).set_ 2 (.int .i64 0)).set_ 3 (.bool false)
  simp only [List.setIfInBounds_toArray, List.set_cons_zero, List.set_cons_succ] at hb9
  refine bodyPost_ret (results_cell_tmp_row rfl _ _ w.heap.size 76 _ (0, 0) _ rfl hb9 Try.underlying76 rfl (by kernel_rfl)) rfl ⟨rfl, ?_⟩
  have hB0 := hA.trans (hB.mono hA.size)
  exact (((hB0.setCell (p := ⟨w.heap.size, 0, none⟩) (Nat.le_refl _) _).setCell (p := ⟨w.heap.size, 1, none⟩) (Nat.le_refl _) _).setCell (p := ⟨w.heap.size, 2, none⟩) (Nat.le_refl _) _).setCell (p := ⟨w.heap.size, 3, none⟩) (Nat.le_refl _) _
set_option maxRecDepth 100000 in
theorem entry_yes (h : Arm w base d vs va es last) {k : Nat} {e : En} (hk : es[k]? = some e) (hg : e.gone = false) :
    Calls Try.prog 40 #[.pointer (some ⟨d, 0, none⟩), .int .i64 (e.id : Int)] w fun r w' => r = .returned (.tuple #[.agg #[.int .i64 (off es k : Int), .int .i64 ((off es k : Int) + (e.ls.length : Int)), .int .i64 (e.id : Int), .bool false], .int .i64 0]) ∧ Below w.heap.size w w' := by
  have hA := (Below.refl _ w).alloc (Nat.le_refl _) (.cells #[.int .i64 0, .int .i64 0, .int .i64 0, .bool false] 76)
  have hf := find_yes (h.new hA) hk hg
  have hi := is_ok (h.new hA)
  have h1 := h.new hA
  have hb4 := Blk.new w 76 #[.int .i64 0, .int .i64 0, .int .i64 0, .bool false]
  have hls : w.heap.size < (w.alloc (.cells #[.int .i64 0, .int .i64 0, .int .i64 0, .bool false] 76)).heap.size := by simp
  have hke := (List.getElem?_eq_some_iff.1 hk).1
  have hfew := h.few
  have t0 : 0 ≤ (k : Int) := by omega
  have t1 : (k : Int) < (es.length : Int) := by omega
  have hdl := h.hd.lt
  have hgl : ∀ g, va.ownBlock = some g → g < w.heap.size := fun g hg => (h.ha.lt g hg).2
  obtain ⟨A1, k1, rfl⟩ := own_form h.ha
  have hk' := Lib.hid hk
  have hg' := Lib.hid hg
  clear h hk hke hg
  replace hf := Lib.hid hf
  replace hi := Lib.hid hi
  replace h1 := Lib.hid h1
  replace hgl := Lib.hid hgl
  go_enter Try.func40, Try.ntmps40
  go_upto_region 1 with (fail)
  generalize w.alloc (.cells #[.int .i64 0, .int .i64 0, .int .i64 0, .bool false] 76) = W1 at *
  go_wp2_with (first
    | (go_at_call 35; refine hi.out.mono ?_; rintro e w' ⟨rfl, rfl⟩)
    | (go_at_call 37; refine hf.out.mono ?_; rintro e w' ⟨rfl, hB⟩; have hb5 := hb4.below hB hls; have x0 := hb5.cell 0; have x1 := hb5.cell 1; have x2 := hb5.cell 2; have x3 := hb5.cell 3; have z0 := hb5.frozen 0; have z1 := hb5.frozen 1; have z2 := hb5.frozen 2; have z3 := hb5.frozen 3; simp only [List.getElem?_toArray, List.getElem?_cons_zero, List.getElem?_cons_succ] at x0 x1 x2 x3; have h2 := h1.out.new hB; have c1 := h2.c1; obtain ⟨g, rfl, _, q0, q1, q2, q3⟩ := ent_at h2.ha hk'.out; rw [hg'.out] at q3; have hgw := hgl.out g rfl; replace h2 := Lib.hid h2))
  have hb9 := (((hb5.set_ 0 (.int .i64 (off es k : Int))).set_ 1 (.int .i64 ((off es k : Int) + (e.ls.length : Int)))).set_ 2 (.int .i64 (e.id : Int))).set_ 3 (.bool false)
  simp only [List.setIfInBounds_toArray, List.set_cons_zero, List.set_cons_succ] at hb9
  refine bodyPost_ret (results_cell_tmp_row rfl _ _ w.heap.size 76 _ (0, 0) _ rfl hb9 Try.underlying76 rfl (by kernel_rfl)) rfl ⟨rfl, ?_⟩
  have hB0 := hA.trans (hB.mono hA.size)
  exact (((hB0.setCell (p := ⟨w.heap.size, 0, none⟩) (Nat.le_refl _) _).setCell (p := ⟨w.heap.size, 1, none⟩) (Nat.le_refl _) _).setCell (p := ⟨w.heap.size, 2, none⟩) (Nat.le_refl _) _).setCell (p := ⟨w.heap.size, 3, none⟩) (Nat.le_refl _) _
end
section
variable {w : World} {base d : Nat} {vs va : Value} {es : List En} {last : Nat}
theorem len_no (h : Arm w base d vs va es last) (id : Int) (hn : look (als es) id = none) (hb : -9223372036854775808 ≤ id ∧ id ≤ 9223372036854775807) :
    Calls Try.prog 18 #[.pointer (some ⟨d, 0, none⟩), .int .i64 id] w fun r w' => r = .returned (.tuple #[.int .i64 0, .int .i64 30]) ∧ Below w.heap.size w w' := by
  have he := entry_no h id hn hb
  replace he := Lib.hid he
  clear h hn
  go_enter Try.func18, Try.ntmps18
  go_wp2_with (first
    | (go_at_call 40; refine he.out.mono ?_; rintro e w' ⟨rfl, hB⟩; have hb5 := hB.alloc hB.size (.cells #[.int .i64 0, .int .i64 0, .int .i64 0, .bool false] 76))
    | (go_at_call 38; refine (spanlen_any _ _ (by omega) (by omega) _).mono ?_; rintro r w9 ⟨rfl, hB9⟩))
  go_ret2
  exact ⟨rfl, hb5.trans (hB9.mono hb5.size)⟩
theorem len_yes (h : Arm w base d vs va es last) {k : Nat} {e : En} (hk : es[k]? = some e) (hg : e.gone = false) :
    Calls Try.prog 18 #[.pointer (some ⟨d, 0, none⟩), .int .i64 (e.id : Int)] w fun r w' => r = .returned (.tuple #[.int .i64 (e.ls.length : Int), .int .i64 0]) ∧ Below w.heap.size w w' := by
  have he := entry_yes h hk hg
  have hol := off_le es k e hk
  have hheld := h.ok.held
  have hus := h.ok.us
  generalize off es k = f at *
  generalize e.ls.length = L at *
  have e3 : (f : Int) + (L : Int) - (f : Int) = L := by omega
  have hsp := spanlen_any (f : Int) ((f : Int) + (L : Int)) (by omega) (by omega)
  rw [e3] at hsp
  replace he := Lib.hid he
  replace hsp := Lib.hid hsp
  clear h hk e3
  go_enter Try.func18, Try.ntmps18
  go_wp2_with (first
    | (go_at_call 40; refine he.out.mono ?_; rintro e w' ⟨rfl, hB⟩; have hb5 := hB.alloc hB.size (.cells #[.int .i64 (f : Int), .int .i64 ((f : Int) + (L : Int)), .int .i64 (e.id : Int), .bool false] 76))
    | (go_at_call 38; refine (hsp.out _).mono ?_; rintro r w9 ⟨rfl, hB9⟩))
  go_ret2
  exact ⟨rfl, hb5.trans (hB9.mono hb5.size)⟩
theorem get_no (h : Arm w base d vs va es last) (id : Int) (hn : look (als es) id = none) (hb : -9223372036854775808 ≤ id ∧ id ≤ 9223372036854775807) :
    Calls Try.prog 17 #[.pointer (some ⟨d, 0, none⟩), .int .i64 id] w fun r w' => r = .returned (.tuple #[.slice none 0 0, .int .i64 30]) ∧ Below w.heap.size w w' := by
  have he := entry_no h id hn hb
  replace he := Lib.hid he
  clear h hn
  go_enter Try.func17, Try.ntmps17
  go_wp2_with (go_at_call 40; refine he.out.mono ?_; rintro e w' ⟨rfl, hB⟩; have hb5 := hB.alloc hB.size (.cells #[.int .i64 0, .int .i64 0, .int .i64 0, .bool false] 76))
  go_ret2
  exact ⟨rfl, hb5⟩
/-- What Get answers. -/
def Got (w : World) (n : Nat) (l : List Int) (r : Ending) (w' : World) : Prop := ∃ A c, r = .returned (.tuple #[.slice A n c, .int .i64 0]) ∧ w'.ownsRow w.heap.size 30 1 (.slice A n c) n (lits l) ∧ Below w.heap.size w w'
set_option maxRecDepth 100000 in
theorem get_yes (h : Arm w base d vs va es last) {k : Nat} {e : En} (hk : es[k]? = some e) (hg : e.gone = false) :
    Calls Try.prog 17 #[.pointer (some ⟨d, 0, none⟩), .int .i64 (e.id : Int)] w (Got w e.ls.length e.ls) := by
  have he := entry_yes h hk hg
  have hol := off_le es k e hk
  have hheld := h.ok.held
  have hus := h.ok.us
  have hP := h.prt
  have hdl := h.hd.lt
  obtain ⟨As, cs, rfl⟩ := own_form hP.hs
  obtain ⟨hs1, hs2, hsr⟩ := sub_reads hP.hs hk
  obtain ⟨ns, hns⟩ : ∃ ns, ns = (flat es).length := ⟨_, rfl⟩
  obtain ⟨f, hf⟩ : ∃ f, f = off es k := ⟨_, rfl⟩
  obtain ⟨L, hL⟩ : ∃ L, L = e.ls.length := ⟨_, rfl⟩
  rw [← hf, ← hL] at he hol hs1 hsr
  rw [← hns] at hol hheld hP hs1 hs2
  rw [← hL]
  have hcl := (h.ok.cl e (List.mem_of_getElem? hk)).1
  rw [← hL] at hcl
  replace he := Lib.hid he
  replace hP := Lib.hid hP
  clear h hk hf hL hns
  have hlen : ((f : Int) + (L : Int)).toNat - f = L := by omega
  replace hlen := Lib.hid hlen
  have u1 : (f : Int) + (L : Int) ≤ (ns : Int) := by omega
  have u2 : (f : Int) ≤ (cs : Int) := by omega
  have u3 : (f : Int) + (L : Int) ≤ (cs : Int) := by omega
  have u4 : (f : Int) ≤ (f : Int) + (L : Int) := by omega
  have u5 : 0 ≤ (f : Int) + (L : Int) := by omega
  have u6 : 0 ≤ (f : Int) := by omega
  go_enter Try.func17, Try.ntmps17
  by_cases hcb : cs = f
  · rw [if_pos hcb] at hsr
    subst hcb
    obtain rfl : L = 0 := by omega
    go_upto_region 4 with (go_at_call 40; refine he.out.mono ?_; rintro r w' ⟨rfl, hB⟩; have hb5 := hB.alloc hB.size (.cells #[.int .i64 (cs : Int), .int .i64 (cs : Int), .int .i64 (e.id : Int), .bool false] 76); have hle := hB.size; have hbe := Blk.new w' 76 #[.int .i64 (cs : Int), .int .i64 (cs : Int), .int .i64 (e.id : Int), .bool false]; have hBw := hB)
    have c0 := (hP.out.new hb5).c0
    have q0 := hbe.cell 0
    have q1 := hbe.cell 1
    have hsr2 := hsr.below hb5
    generalize w'.alloc (.cells #[.int .i64 (cs : Int), .int .i64 (cs : Int), .int .i64 (e.id : Int), .bool false] 76) = W1 at *
    simp only [List.getElem?_toArray, List.getElem?_cons_zero, List.getElem?_cons_succ] at q0 q1
    go_still_tail 11, (by kernel_rfl)
    change wpList _ _ _ _ _ W1.drew
    go_wp2_with (go_at_call 41; refine (clone_ok _ _ _ w.heap.size e.ls W1.drew hsr2.drew hb5.size (by omega)).mono ?_; rintro r w2 ⟨A9, c9, rfl, hown, hB9⟩)
    go_ret2
    exact ⟨A9, c9, rfl, own_base hown hb5.size, hb5.drew.trans (hB9.mono hb5.size)⟩
  · rw [if_neg hcb] at hsr
    go_upto_region 4 with (go_at_call 40; refine he.out.mono ?_; rintro r w' ⟨rfl, hB⟩; have hb5 := hB.alloc hB.size (.cells #[.int .i64 (f : Int), .int .i64 ((f : Int) + (L : Int)), .int .i64 (e.id : Int), .bool false] 76); have hle := hB.size; have hbe := Blk.new w' 76 #[.int .i64 (f : Int), .int .i64 ((f : Int) + (L : Int)), .int .i64 (e.id : Int), .bool false]; have hBw := hB)
    have c0 := (hP.out.new hb5).c0
    have q0 := hbe.cell 0
    have q1 := hbe.cell 1
    have hsr2 := hsr.below hb5
    generalize w'.alloc (.cells #[.int .i64 (f : Int), .int .i64 ((f : Int) + (L : Int)), .int .i64 (e.id : Int), .bool false] 76) = W1 at *
    simp only [List.getElem?_toArray, List.getElem?_cons_zero, List.getElem?_cons_succ] at q0 q1
    go_still_tail 11, (by kernel_rfl)
    rw [hlen.out]
    change wpList _ _ _ _ _ W1.drew
    go_wp2_with (go_at_call 41; refine (clone_ok _ _ _ w.heap.size e.ls W1.drew hsr2.drew hb5.size (by omega)).mono ?_; rintro r w2 ⟨A9, c9, rfl, hown, hB9⟩)
    go_ret2
    exact ⟨A9, c9, rfl, own_base hown hb5.size, hb5.drew.trans (hB9.mono hb5.size)⟩
end
end Go.Proofs.Ytlcfgpkokaiogaa
