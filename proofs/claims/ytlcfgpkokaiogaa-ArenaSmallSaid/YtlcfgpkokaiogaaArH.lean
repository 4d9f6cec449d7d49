/- Arenas: Delete. -/
import Derived.Test.YtlcfgpkokaiogaaArG
namespace Go.Proofs.Ytlcfgpkokaiogaa
open Go Go.RowKit
set_option linter.unusedVariables false
set_option linter.unusedSimpArgs false
set_option maxHeartbeats 4000000
theorem spanlen_is (a b : Int) (h1 : -9223372036854775808 ≤ b - a) (h2 : b - a ≤ 9223372036854775807) (w : World) :
    Calls Try.prog 38 #[.agg #[.int .i64 a, .int .i64 b]] w fun e w' => e = .returned (.int .i64 (b - a)) ∧ w.alloc (.cells #[.int .i64 a, .int .i64 b] 74) = w' := by
  go_enter Try.func38, Try.ntmps38
  go_wp2
  go_ret
  exact ⟨rfl, rfl⟩
section
variable {w : World} {base d : Nat} {vs va : Value} {es : List En} {last : Nat}
theorem del_no (h : Arm w base d vs va es last) (id : Int) (hn : look (als es) id = none) (hb : -9223372036854775808 ≤ id ∧ id ≤ 9223372036854775807) : Calls Try.prog 15 #[.pointer (some ⟨d, 0, none⟩), .int .i64 id] w fun r w' => r = .returned (.int .i64 30) ∧ Below w.heap.size w w' := by
  have hf := find_no h id hn hb
  have hi := is_ok h
  replace hf := Lib.hid hf
  replace hi := Lib.hid hi
  clear h hn
  go_enter Try.func15, Try.ntmps15
  go_wp2_with (first | (go_at_call 35; refine hi.out.mono ?_; rintro e w' ⟨rfl, rfl⟩) | (go_at_call 37; refine hf.out.mono ?_; rintro e w' ⟨rfl, hB⟩))
  go_ret
  exact ⟨rfl, hB⟩
theorem Prt.gone {W : World} {u c l : Int} {ns cc g : Nat} {xs : List Value} (h : Prt W base d vs (.slice (some ⟨g, 0, none⟩) es.length cc) u c l ns es.length xs (encN 0 es)) {k : Nat} {e : En} (hk : es[k]? = some e) :
    Prt (W.setCell ⟨g, k * 4 + 3, none⟩ (.bool true)) base d vs (.slice (some ⟨g, 0, none⟩) es.length cc) u c l ns (goneAt es k e).length xs (encN 0 (goneAt es k e)) ∧ Only (fpOf d vs (.slice (some ⟨g, 0, none⟩) es.length cc)) W (W.setCell ⟨g, k * 4 + 3, none⟩ (.bool true)) := by
  have s1 := (h.ha.stored (k * 4 + 3) (.bool true)).1
  rw [← encN_gone hk] at s1
  have hO : Only [g] W (W.setCell ⟨g, k * 4 + 3, none⟩ (.bool true)) := (Only.refl _ _).setCell (p := ⟨g, k * 4 + 3, none⟩) (.inl (by simp)) _
  have hgl : (goneAt es k e).length = es.length := by simp [goneAt]
  refine ⟨⟨h.hd.only hO (fun hm => ?_), own_only h.hs hO (fun j hj hm => ?_), own_cast s1 hgl.symm rfl, h.bd⟩, hO.more (fun j hj _ => ?_)⟩
  · rw [List.mem_singleton] at hm; subst hm
    exact h.ne1 rfl
  · rw [List.mem_singleton] at hm; subst hm
    exact own_kinds h.hs h.ha (by decide) j hj rfl
  · rw [List.mem_singleton] at hj; subst hj
    exact mem_fp.2 (.inr (.inr rfl))
theorem del_finA {W wc : World} (h : Arm w base d vs va es last) {k : Nat} {e : En} (hk : es[k]? = some e) (hg : e.gone = false) {es' : List En} {us ct : Nat} (hes : es' = goneAt es k e) (hus : us = usedL (als es')) (hct : ct = (als es').length) (hB : Only (fpOf d vs va) w W) (hO : Only (fpOf d vs va) W wc)
    (hP : Prt wc base d vs va us ct last (flat es).length es'.length (lits (flat es)) (encN 0 es')) (h1 : (flat es).length ≤ 2 * us + 64) (h2 : es.length ≤ 2 * ct + 64) :
    ∃ fp', Arena wc base d fp' (without (als es) e.id) last ∧ (∀ k, k ∈ fp' → k ∈ fpOf d vs va ∨ w.heap.size ≤ k) ∧ Only (fpOf d vs va) w wc := by
  subst hes hus hct
  have hfl := flat_gone hk
  have hok := h.ok.del hk hg (by rw [hfl]; exact h1) (by simpa [goneAt] using h2)
  exact ⟨_, ⟨vs, va, goneAt es k e, ⟨hP.hd, by rw [hfl]; exact hP.hs, hP.ha, hP.bd, hok⟩, als_gone h.ok.so hk hg, rfl⟩, fun k hk => .inl hk, hB.trans hO⟩
theorem del_finB {W wc w9 : World} {r : Ending} (h : Arm w base d vs va es last) {k : Nat} {e : En} (hk : es[k]? = some e) (hg : e.gone = false) {es' : List En} {us ct : Nat} (hes : es' = goneAt es k e) (hus : us = usedL (als es')) (hct : ct = (als es').length) (hB : Only (fpOf d vs va) w W) (hO : Only (fpOf d vs va) W wc)
    (hM : Moved wc base d vs va us ct last es' r w9) :
    ∃ fp', Arena w9 base d fp' (without (als es) e.id) last ∧ (∀ k, k ∈ fp' → k ∈ fpOf d vs va ∨ w.heap.size ≤ k) ∧ Only (fpOf d vs va) w w9 := by
  subst hes hus hct
  obtain ⟨_, v2, v3, hP, hO3, n2, n3⟩ := hM
  have hok := h.ok.moved hk hg
  have hsz := (hB.trans hO).size
  refine ⟨_, ⟨v2, v3, kept (goneAt es k e), ⟨by rw [als_kept]; exact hP.hd, hP.hs, hP.ha, hP.bd, hok⟩, by rw [als_kept]; exact als_gone h.ok.so hk hg, rfl⟩, fun j hj => ?_, (hB.trans hO).trans hO3⟩
  rcases mem_fp.1 hj with rfl | hj | hj
  · exact .inl (mem_fp.2 (.inl rfl))
  · have := n2 j hj; exact .inr (by omega)
  · have := n3 j hj; exact .inr (by omega)
theorem Prt.drewN {W : World} {u c l : Int} {ns na : Nat} {xs ys : List Value} (h : Prt W base d vs va u c l ns na xs ys) (n : Nat) : Prt (W.drewN n) base d vs va u c l ns na xs ys := ⟨h.hd.drewN n, h.hs, h.ha, h.bd⟩
/-- Between the mark and the numbers. -/
def DelMid (W1 : World) (base d : Nat) (vs va : Value) (u c l : Int) (ns na : Nat) (xs ys : List Value) (wx : World) : Prop := Prt wx base d vs va u c l ns na xs ys ∧ Only (fpOf d vs va) W1 wx
set_option maxRecDepth 100000 in
theorem del_yes (h : Arm w base d vs va es last) {k : Nat} {e : En} (hk : es[k]? = some e) (hg : e.gone = false) :
    Calls Try.prog 15 #[.pointer (some ⟨d, 0, none⟩), .int .i64 (e.id : Int)] w (Wrote w base d (fpOf d vs va) (without (als es) e.id) last (.int .i64 0)) := by
  have hf := find_yes h hk hg
  have hi := is_ok h
  obtain ⟨A1, k1, rfl⟩ := own_form h.ha
  obtain ⟨g, rfl, hke, _⟩ := ent_at h.ha hk
  obtain ⟨A0, k0, rfl⟩ := own_form h.hs
  have hug := used_gone hk hg
  have hcg := cnt_gone hk hg
  have hfew := h.few
  have hus := h.ok.us
  have hheld := h.ok.held
  have hcnt : (als es).length ≤ es.length := by unfold als; rw [List.length_map]; exact List.length_filter_le _ _
  have hol := off_le es k e hk
  have h0 := h
  replace hf := Lib.hid hf
  replace hi := Lib.hid hi
  replace h := Lib.hid h
  go_enter Try.func15, Try.ntmps15
  go_upto_region 6 with (first | (go_at_call 35; refine hi.out.mono ?_; rintro e w' ⟨rfl, rfl⟩) | (go_at_call 37; refine hf.out.mono ?_; rintro r w' ⟨rfl, hB⟩))
  have h2 := h0.new hB
  have hP := h2.prt
  have hle := hB.size
  obtain ⟨hP1, hO1⟩ := hP.gone hk
  have c1 := hP.c1
  have hfz := hP.ha.frozenAt (k * 4 + 3)
  have t1 : (k : Int) < (es.length : Int) := by omega
  have t2 : 0 ≤ (k : Int) := by omega
  obtain ⟨_, hgg0, _, _, _, _, q3⟩ := ent_at h2.ha hk
  injection hgg0 with hgg0
  injection hgg0 with hgg0
  subst hgg0
  clear hP h2
  replace hP1 := Lib.hid hP1
  replace hO1 := Lib.hid hO1
  replace h0 := Lib.hid h0
  go_upto_region 7 with (fail)
  have hk' : (goneAt es k e)[k]? = some { e with gone := true } := by
    have := (List.getElem?_eq_some_iff.1 hk).1
    simp [goneAt, this]
  have hgl : (goneAt es k e).length = es.length := by simp [goneAt]
  have hfl := flat_gone hk
  have hoff : off (goneAt es k e) k + e.ls.length ≤ (flat es).length := by
    have := off_le _ k _ hk'
    rw [hfl] at this
    exact this
  obtain ⟨es', hes⟩ : ∃ es', es' = goneAt es k e := ⟨_, rfl⟩
  rw [← hes] at hP1 hk' hgl hfl hug hcg hoff
  obtain ⟨e', he'⟩ : ∃ e' : En, e' = { e with gone := true } := ⟨_, rfl⟩
  rw [← he'] at hk'
  have hel : e'.ls = e.ls := by rw [he']
  rw [← hel] at hug hoff
  have hP1 := hP1.out
  rw [hug, hcg] at hP1
  have hs2 := hO1.out.size
  generalize hW1 : w'.setCell ⟨g, k * 4 + 3, none⟩ (.bool true) = W1 at *
  clear hfz c1 hW1 q3
  obtain ⟨_, hgg, _, q0, q1, _⟩ := ent_at (es := es') (c := k1) (A := some ⟨g, 0, none⟩) (by have := hP1.ha; rw [← hgl] at this; exact this) hk'
  injection hgg with hgg
  injection hgg with hgg
  subst hgg
  obtain ⟨us, hus'⟩ : ∃ us, us = usedL (als es') := ⟨_, rfl⟩
  obtain ⟨ct, hct'⟩ : ∃ ct, ct = (als es').length := ⟨_, rfl⟩
  obtain ⟨L, hL⟩ : ∃ L, L = e'.ls.length := ⟨_, rfl⟩
  obtain ⟨f, hf'⟩ : ∃ f, f = off es' k := ⟨_, rfl⟩
  rw [← hus', ← hct', ← hL] at hP1
  rw [← hL, ← hf'] at q1 hoff
  rw [← hf'] at q0
  rw [← hus', ← hL] at hug
  rw [← hct'] at hcg
  have c1 := hP1.c1
  have c2 := hP1.c2
  have c3 := hP1.c3
  have z2 := hP1.hd.frozen 2
  have z3 := hP1.hd.frozen 3
  have ld := hP1.hd.lt
  have lg : g < W1.heap.size := (hP1.ha.lt g rfl).2
  have e1 : IntKind.i64.wrap ((us : Int) + (L : Int) - ((f : Int) + (L : Int) - (f : Int))) = (us : Int) := by simp [IntKind.wrap, IntKind.bits, IntKind.signed]; omega
  have e2 : IntKind.i64.wrap (ct : Int) = (ct : Int) := by simp [IntKind.wrap, IntKind.bits, IntKind.signed]; omega
  have hres : ∀ (u1 c1 fr t9 : Int), u1 = us → c1 = ct → DelMid W1 base d (.slice A0 (flat es).length k0) (.slice (some ⟨g, 0, none⟩) es.length k1) us ct last (flat es).length es'.length (lits (flat es)) (encN 0 es') ((((W1.setCell ⟨d, 2, none⟩ (.int .i64 u1)).setCell ⟨d, 3, none⟩ (.int .i64 c1)).alloc (.cells #[.int .i64 fr, .int .i64 t9] 74)).drew) := by
    rintro u1 c1 fr t9 rfl rfl
    exact ⟨(((hP1.set2 us).set3 ct).alloc _).drew, (((hP1.cellOnly 2 _).trans ((hP1.set2 us).cellOnly 3 _)).alloc _).drew⟩
  replace e1 := Lib.hid e1
  replace e2 := Lib.hid e2
  replace hres := Lib.hid hres
  replace hP1 := Lib.hid hP1
  have hes' := Lib.hid hes
  replace hus' := Lib.hid hus'
  replace hct' := Lib.hid hct'
  replace hL := Lib.hid hL
  replace hf' := Lib.hid hf'
  replace hel := Lib.hid hel
  replace hk' := Lib.hid hk'
  have hk2 := Lib.hid hk
  replace hgl := Lib.hid hgl
  replace hfl := Lib.hid hfl
  replace hug := Lib.hid hug
  replace hcg := Lib.hid hcg
  clear hes he' hk
  go_cut [] (fun wx => DelMid W1 base d (.slice A0 (flat es).length k0) (.slice (some ⟨g, 0, none⟩) es.length k1) us ct last (flat es).length es'.length (lits (flat es)) (encN 0 es') wx)
  case first =>
    go_region_law ((go_simp; go_at_call 38; refine (spanlen_is _ _ (by omega) (by omega) _).mono ?_; rintro r w9 ⟨rfl, rfl⟩))
    all_goals go_wp2
    all_goals (go_meet; exact hres.out _ _ _ _ e1.out e2.out)
  case rest =>
    clear hres e1 e2 c1 c2 c3 z2 z3 ld lg q0 q1
    obtain ⟨hP2, hO2⟩ := hcut
    have c0 := hP2.c0
    have c1 := hP2.c1
    have c2 := hP2.c2
    have c3 := hP2.c3
    have hns : (flat es).length ≤ 4294967296 := by have := hug.out; omega
    have hus2 : us ≤ 1048576 := by have := hug.out; omega
    have hct2 : ct ≤ 1073741824 := by have := hcg.out; omega
    have hna : es.length ≤ 4294967296 := by omega
    have hOw := (only_of_below (fpOf d (.slice A0 (flat es).length k0) (.slice (some ⟨g, 0, none⟩) es.length k1)) hB).trans hO1.out
    have hfA : ∀ nq, (flat es).length ≤ 2 * us + 64 → es.length ≤ 2 * ct + 64 → _ := fun nq h1 h2 => del_finA h0.out hk2.out hg hes'.out hus'.out hct'.out hOw (hO2.drewN nq) (hP2.drewN nq) h1 h2
    have hfB := fun (nq : Nat) (r : Ending) (w9 : World) (hM : Moved (wc.drewN nq) base d _ _ us ct last es' r w9) => del_finB h0.out hk2.out hg hes'.out hus'.out hct'.out hOw (hO2.drewN nq) hM
    have hmv := fun (nq : Nat) => move_ok (es := es') (by rw [hfl.out]; exact hP2.drewN nq) (by rw [hgl.out]; exact hna) (by rw [hfl.out]; exact hns)
    replace hfA := Lib.hid hfA
    replace hfB := Lib.hid hfB
    replace hmv := Lib.hid hmv
    clear hfew hheld hcnt hol
    generalize (flat es).length = ns at *
    generalize es.length = na at *
    replace hP2 := Lib.hid hP2
    by_cases i1 : 2 * us + 64 < ns
    · have j1 : 2 * (us : Int) + 64 < (ns : Int) := by omega
      have j2 : decide (2 * (us : Int) + 64 < (ns : Int)) = true := by simp; omega
      go_upto_region 8 with (fail)
      go_quiet (fail)
      go_wp2_with (go_at_call 39; refine (hmv.out nq).mono ?_; rintro r w9 hM; have hfin := hfB.out nq _ _ hM; obtain ⟨⟨v9, rfl⟩, _⟩ := hM)
      go_ret
      exact ⟨rfl, hfin⟩
    · have j2 : decide (2 * (us : Int) + 64 < (ns : Int)) = false := by simp; omega
      by_cases i3 : 2 * ct + 64 < na
      · have j3 : 2 * (ct : Int) + 64 < (na : Int) := by omega
        have j4 : decide (2 * (ct : Int) + 64 < (na : Int)) = true := by simp; omega
        go_upto_region 8 with (fail)
        go_quiet (fail)
        go_wp2_with (go_at_call 39; refine (hmv.out nq).mono ?_; rintro r w9 hM; have hfin := hfB.out nq _ _ hM; obtain ⟨⟨v9, rfl⟩, _⟩ := hM)
        go_ret
        exact ⟨rfl, hfin⟩
      · have j4 : decide (2 * (ct : Int) + 64 < (na : Int)) = false := by simp; omega
        go_upto_region 8 with (fail)
        go_quiet (fail)
        go_wp2_with fail
        go_ret
        exact ⟨rfl, hfA.out nq (by omega) (by omega)⟩
end
section
variable {w : World} {base d : Nat} {fp : List Nat} {al : List (Nat × List Int)} {last : Nat}
theorem without_none {id : Int} (h : look al id = none) : without al id = al := by
  unfold without
  rw [List.filter_eq_self]
  intro c hc
  have := look_none.1 h c hc
  simpa using this
theorem del_arena (h : Arena w base d fp al last) (id : Int) (hb : -9223372036854775808 ≤ id ∧ id ≤ 9223372036854775807) :
    Calls Try.prog 15 #[.pointer (some ⟨d, 0, none⟩), .int .i64 id] w (Wrote w base d fp (without al id) last (.int .i64 (delErr al id))) := by
  have h0 := h
  obtain ⟨vs, va, es, h, rfl, rfl⟩ := h
  cases hl : look (als es) id with
  | none =>
    have he : delErr (als es) id = 30 := if_pos hl
    rw [he, without_none hl]
    exact (del_no h id hl hb).mono fun e w' h => wrote_same h0 h.1 h.2
  | some l =>
    have he : delErr (als es) id = 0 := if_neg (by rw [hl]; simp)
    obtain ⟨k, e, hk, rfl, hg, rfl⟩ := look_ent h.ok.so hl
    rw [he]
    exact del_yes h hk hg
end
end Go.Proofs.Ytlcfgpkokaiogaa
