/- Trails: the reference: Assign. -/
import Derived.Test.YtkedepkhcbhcdaaTrlX
namespace Go.Proofs.Ytkedepkhcbhcdaa
open Go Go.RowKit Go.Shelf
set_option linter.unusedVariables false
set_option linter.unusedSimpArgs false
set_option maxHeartbeats 4000000
theorem results_cell_row_tmp {P : Program} {fn : Func} {p q : Tmp} {ty : TypeId} (h : fn.results = #[.cell p ty, .tmp q]) (tmps : Array Value) (w : World) (g : Nat) (t : TypeId) (cs : Array Value) (fr : Nat × Nat) (d : TypeDesc)
    (hp : tmps.getD p undef = .pointer (some ⟨g, 0, none⟩)) (hg : w.heap[g]? = some (.cells cs t fr))
    (hu : P.underlying ty = some d) (hd : (match d with | .struct _ | .array _ _ => true | _ => false) = true) (hi : (P.info? ty).map (·.size) = some cs.size) :
    (results fn tmps).run P w = .ok (.tuple #[.agg cs, tmps.getD q undef]) w := by
  have hp' : tmps[p]?.getD undef = .pointer (some ⟨g, 0, none⟩) := by simpa using hp
  simp [results, h, hp', asAddr, run_loadVar_row w g t ty cs fr d hg hu hd hi]
/-- What Assign of the reference answers: no variable, or a reason that is none, or a value that there is. -/
theorem asgE_cases (D : Trl) (hok : D.Ok) (l r : Int) : (varL l < 1 ∨ (D.n : Int) < varL l → asgE D l r = 40) ∧ (¬ (varL l < 1 ∨ (D.n : Int) < varL l) → (r < 0 ∨ 1073741824 < r → asgE D l r = 2) ∧ (¬ (r < 0 ∨ 1073741824 < r) → (valD D l ≠ 0 → asgE D l r = 41) ∧ (valD D l = 0 → asgE D l r = 0))) := by
  have hn := hok.n0
  have hv : isV D l = false ↔ (varL l < 1 ∨ (D.n : Int) < varL l) := by
    rw [← Bool.not_eq_true]
    unfold varL
    by_cases hr : rightL l = true
    · rw [if_pos hr]
      simp [rightL] at hr
      simp [isV]
      split <;> omega
    · rw [if_neg hr]
      simp [rightL] at hr
      simp [isV]
      omega
  refine ⟨fun h => if_pos (hv.2 h), fun h => ?_⟩
  have hvt : isV D l = true := by rw [← Bool.not_eq_false]; exact fun hc => h (hv.1 hc)
  refine ⟨fun hr => by unfold asgE; rw [if_neg (by rw [hvt]; decide), if_pos hr], fun hr => ?_⟩
  have hb : rightL l = true := by
    simp [isV] at hvt
    simp [rightL]; omega
  have hvar : varL l = if l < 0 then -l else l := by rw [varL, hb]; rfl
  have hval : valD D l = (row D.its (varL l)).2.2.2 * sgn l := by unfold valD; rw [if_pos hvt, hvar]
  have hs : sgn l = 1 ∨ sgn l = -1 := by unfold sgn; split <;> simp
  have he : asgE D l r = if (row D.its (varL l)).2.2.2 ≠ 0 then 41 else 0 := by
    unfold asgE; rw [if_neg (by rw [hvt]; decide), if_neg hr]
  rw [he]
  constructor
  · intro h0
    rw [if_pos (fun hc => h0 (by rw [hval, hc]; simp))]
  · intro h0
    rw [hval] at h0
    rw [if_neg (by rcases hs with e | e <;> rw [e] at h0 <;> simp <;> omega)]
/-- Behind the appends of Assign. -/
def AssAt (w : World) (D : Trl) (l r : Int) (As : Option Addr) (cs : Nat) (wx : World) : Prop := ∃ A9 c9, Blk wx w.heap.size 82 #[.int .i64 D.n, .int .i64 ((D.st.length : Int) - 1), .slice A9 (D.its.length + 1) c9, .slice As D.st.length cs] ∧
  Blk wx (w.heap.size + 1) 82 #[.int .i64 0, .int .i64 0, .slice none 0 0, .slice none 0 0] ∧ wx.ownsRow w.heap.size 93 3 (.slice A9 (D.its.length + 1) c9) (D.its.length + 1) (encIs (D.its ++ [⟨l, r, D.st.length - 1⟩])) ∧ Below w.heap.size w wx
/-- The two blocks of Assign. -/
def AssIn (w : World) (D : Trl) (Ai As : Option Addr) (ci cs : Nat) (wx : World) : Prop := Blk wx w.heap.size 82 #[.int .i64 D.n, .int .i64 ((D.st.length : Int) - 1), .slice Ai D.its.length ci, .slice As D.st.length cs] ∧ Blk wx (w.heap.size + 1) 82 #[.int .i64 0, .int .i64 0, .slice none 0 0, .slice none 0 0] ∧ Below w.heap.size w wx
theorem info93 : (Try.prog.info? 93).map (fun i => (i.zero, i.size, i.bytes)) = some (some (.agg #[.int .i64 0, .int .i64 0, .int .i64 0]), 3, 24) := by kernel_rfl
theorem one_encIs (l : List Itm) : ∀ u ∈ encIs l, u.oneCell' = true := by
  intro u hu
  obtain ⟨x, _, hx⟩ := List.mem_flatMap.1 hu
  simp [encI] at hx
  rcases hx with rfl | rfl | rfl <;> rfl
theorem lit_reads3 (W : World) (e : TypeId) (a b c : Value) : Reads (W.alloc (.cells #[a, b, c] e)) (W.heap.size + 1) 3 (some ⟨W.heap.size, 0, none⟩) 1 [a, b, c] := ⟨rfl, fun _ => ⟨_, rfl, by simp, fun j u hu => by
  have h0 := (Blk.new W e #[a, b, c]).cell j
  rw [Addr.add_lit, Nat.zero_add, h0]
  simpa using hu⟩⟩
theorem ref_close {w wc : World} {D : Trl} {fp : List Nat} {Ai As : Option Addr} {ci cs : Nat} (hX : RefX fp w (.agg #[.int .i64 D.n, .int .i64 ((D.st.length : Int) - 1), .slice Ai D.its.length ci, .slice As D.st.length cs]) D)
    (h2 : Blk wc (w.heap.size + 1) 82 #[.int .i64 0, .int .i64 0, .slice none 0 0, .slice none 0 0]) (hB : Below w.heap.size w wc) {w9 : World} (e9 : w9 = (((wc.setCell ⟨w.heap.size + 1, 0, none⟩ (.int .i64 D.n)).setCell ⟨w.heap.size + 1, 1, none⟩ (.int .i64 ((D.st.length : Int) - 1))).setCell ⟨w.heap.size + 1, 2, none⟩ (.slice Ai D.its.length ci)).setCell ⟨w.heap.size + 1, 3, none⟩ (.slice As D.st.length cs)) :
    w9.heap[w.heap.size + 1]? = some (.cells #[.int .i64 D.n, .int .i64 ((D.st.length : Int) - 1), .slice Ai D.its.length ci, .slice As D.st.length cs] 82 (0, 0)) ∧ RefX fp w9 (.agg #[.int .i64 D.n, .int .i64 ((D.st.length : Int) - 1), .slice Ai D.its.length ci, .slice As D.st.length cs]) D ∧ Below w.heap.size w w9 := by
  have hf := (((h2.set_ 0 (.int .i64 D.n)).set_ 1 (.int .i64 ((D.st.length : Int) - 1))).set_ 2 (.slice Ai D.its.length ci)).set_ 3 (.slice As D.st.length cs)
  have hO : Only [w.heap.size + 1] wc w9 := by
    subst e9
    exact ((((Only.refl _ wc).setCell (.inl (by simp)) _).setCell (.inl (by simp)) _).setCell (.inl (by simp)) _).setCell (.inl (by simp)) _
  have hB9 := hB.trans (hO.below hB.size (fun i hi => by have := List.mem_singleton.1 hi; omega))
  rw [← e9] at hf
  exact ⟨hf, hX.new hB9, hB9⟩
theorem ref_close_new {w wc : World} {D D' : Trl} {fp : List Nat} {l r : Int} {Ai A9 As : Option Addr} {ci c9 cs : Nat} (hfp : ∀ k ∈ fp, k < w.heap.size) (hX : RefX fp w (.agg #[.int .i64 D.n, .int .i64 ((D.st.length : Int) - 1), .slice Ai D.its.length ci, .slice As D.st.length cs]) D) (k3 : D.st.length ≤ cs) (k4 : cs ≤ 9223372036854775807)
    (h2 : Blk wc (w.heap.size + 1) 82 #[.int .i64 0, .int .i64 0, .slice none 0 0, .slice none 0 0]) (h3 : wc.ownsRow w.heap.size 93 3 (.slice A9 (D.its.length + 1) c9) (D.its.length + 1) (encIs (D.its ++ [⟨l, r, D.st.length - 1⟩]))) (hB : Below w.heap.size w wc) {w9 : World} (e9 : w9 = (((wc.setCell ⟨w.heap.size + 1, 0, none⟩ (.int .i64 D.n)).setCell ⟨w.heap.size + 1, 1, none⟩ (.int .i64 ((D.st.length : Int) - 1))).setCell ⟨w.heap.size + 1, 2, none⟩ (.slice A9 (D.its.length + 1) c9)).setCell ⟨w.heap.size + 1, 3, none⟩ (.slice As D.st.length cs)) (hD : asg D l r = D') :
    w9.heap[w.heap.size + 1]? = some (.cells #[.int .i64 D.n, .int .i64 ((D.st.length : Int) - 1), .slice A9 (D.its.length + 1) c9, .slice As D.st.length cs] 82 (0, 0)) ∧ RefX fp w9 (.agg #[.int .i64 D.n, .int .i64 ((D.st.length : Int) - 1), .slice A9 (D.its.length + 1) c9, .slice As D.st.length cs]) D' ∧ Below w.heap.size w w9 := by
  have hf := (((h2.set_ 0 (.int .i64 D.n)).set_ 1 (.int .i64 ((D.st.length : Int) - 1))).set_ 2 (.slice A9 (D.its.length + 1) c9)).set_ 3 (.slice As D.st.length cs)
  have hO : Only [w.heap.size + 1] wc w9 := by
    subst e9
    exact ((((Only.refl _ wc).setCell (.inl (by simp)) _).setCell (.inl (by simp)) _).setCell (.inl (by simp)) _).setCell (.inl (by simp)) _
  have hB9 := hB.trans (hO.below hB.size (fun i hi => by have := List.mem_singleton.1 hi; omega))
  rw [← e9] at hf
  have hne := own_blk_ne h3 h2 (by decide)
  have hcap9 := own_cap h3
  have h3' := own_only h3 hO (fun i hi hm => by have := List.mem_singleton.1 hm; subst this; exact hne hi)
  refine ⟨hf, fun W2 ho => ⟨A9, c9, As, cs, ?_, ?_, ?_, ?_, hcap9.2, ?_, k4⟩, hB9⟩
  · simp [← hD, asg]
  · have := Reads.of_own (own_only h3' ho (fun k hk hm => by have := hfp k hm; have := own_ge h3' k hk; omega))
    simpa [← hD, asg] using this
  · have := (hX.rows hB9 ho).2
    simpa [← hD, asg, sts] using this
  · have := hcap9.1; simpa [← hD, asg] using this
  · simpa [← hD, asg] using k3
set_option maxRecDepth 100000 in
theorem rassign {w : World} {v : Value} {D : Trl} {fp : List Nat} (hX : RefX fp w v D) (hfp : ∀ k ∈ fp, k < w.heap.size) (hok : D.Ok) (hst : D.st.length ≤ 1000) (hits : D.its.length ≤ 1000) (l r : Int) : Calls Try.prog 43 #[v, .int .i64 l, .int .i64 r] w fun e w' => ∃ v', e = .returned (.tuple #[v', .int .i64 (asgE D l r)]) ∧ RefX fp w' v' (asgD D l r) ∧ Below w.heap.size w w' := by
  have hcs := asgE_cases D hok l r
  have hvl : 0 ≤ varL l ∧ varL l ≤ 1048576 := by
    unfold varL
    split
    · rename_i hr
      simp [rightL] at hr
      split <;> omega
    · omega
  have hst1 := hok.st2
  have hn0 := hok.n0
  obtain ⟨Ai, ci, As, cs, rfl, hI, hS, k1, k2, k3, k4⟩ := hX.ref
  replace hX := Lib.hid hX
  replace hfp := Lib.hid hfp
  obtain ⟨j0, hj, hj0, hj1, hj2⟩ := info_parts info93
  have s1 : (D.st.length : Int) ≤ 1000 := by omega
  have s2 : (D.its.length : Int) ≤ 1000 := by omega
  obtain ⟨hv0, hv1⟩ := hvl
  obtain ⟨E, hE⟩ : ∃ E, asgE D l r = E := ⟨_, rfl⟩
  have hD : asgD D l r = if E = 0 then asg D l r else D := by unfold asgD; rw [hE]
  rw [hE, hD]
  rw [hE] at hcs
  obtain ⟨vl, hvl⟩ : ∃ vl, varL l = vl := ⟨_, rfl⟩
  rw [hvl] at hcs hv0 hv1
  have hV : ∀ W : World, ∀ nn, Calls Try.prog 48 #[.int .i64 l] (W.drewN nn) fun e w2 => e = .returned (.int .i64 vl) ∧ ∃ m, w2 = W.drewN m := fun W nn => hvl ▸ quiet_left (rvar (w := W.drewN nn) l)
  replace hV := Lib.hid hV
  clear hvl hE hD
  replace hcs := Lib.hid hcs
  replace hok := Lib.hid hok
  have hnow : ((D.st.length - 1 : Nat) : Int) = (D.st.length : Int) - 1 := by omega
  go_enter Try.func43, Try.ntmps43
  go_wp2_with fail
  have hb := (Blk.new w 82 #[.int .i64 D.n, .int .i64 ((D.st.length : Int) - 1), .slice Ai D.its.length ci, .slice As D.st.length cs]).alloc (.cells #[.int .i64 0, .int .i64 0, .slice none 0 0, .slice none 0 0] 82)
  have hb2 := Blk.new (w.alloc (.cells #[.int .i64 D.n, .int .i64 ((D.st.length : Int) - 1), .slice Ai D.its.length ci, .slice As D.st.length cs] 82)) 82 #[.int .i64 0, .int .i64 0, .slice none 0 0, .slice none 0 0]
  rw [World.size_alloc] at hb2
  have hB0 : Below w.heap.size w ((w.alloc (.cells #[.int .i64 D.n, .int .i64 ((D.st.length : Int) - 1), .slice Ai D.its.length ci, .slice As D.st.length cs] 82)).alloc (.cells #[.int .i64 0, .int .i64 0, .slice none 0 0, .slice none 0 0] 82)) := ((Below.refl _ _).alloc (Nat.le_refl _) _).alloc (by simp) _
  generalize (w.alloc (.cells #[.int .i64 D.n, .int .i64 ((D.st.length : Int) - 1), .slice Ai D.its.length ci, .slice As D.st.length cs] 82)).alloc (.cells #[.int .i64 0, .int .i64 0, .slice none 0 0, .slice none 0 0] 82) = W0 at *
  have b0 := hb.cell 0
  simp only [List.getElem?_toArray, List.getElem?_cons_succ, List.getElem?_cons_zero] at b0
  obtain ⟨c, hc⟩ : ∃ c, decide (vl < 1 ∨ (D.n : Int) < vl) = c := ⟨_, rfl⟩
  go_cut [17] from 8 to 17 (fun b17 wx => b17 = .bool c ∧ AssIn w D Ai As ci cs wx)
  case first =>
    have hVW := hV.out W0
    replace hVW := Lib.hid hVW
    by_cases ha : vl < 1
    · have hcc : c = true := by rw [← hc]; simp [ha]
      subst hcc
      clear hc
      go_quiet ((go_at_call 48; with_reducible exact hVW.out _))
      go_wp2_with fail
      go_meet
      exact ⟨rfl, hb, hb2, below_drewN hB0 _⟩
    · have hcc : c = decide ((D.n : Int) < vl) := by rw [← hc]; simp [ha]
      subst hcc
      clear hc
      go_quiet ((go_at_call 48; with_reducible exact hVW.out _))
      go_wp2_with fail
      go_meet
      exact ⟨rfl, hb, hb2, below_drewN hB0 _⟩
  case rest =>
    obtain ⟨rfl, hb1, hb3, hBc⟩ := hcut
    clear hb hb2 hB0 b0 W0
    have c0 := hb1.cell 0
    have c1 := hb1.cell 1
    have c2 := hb1.cell 2
    have c3 := hb1.cell 3
    have e0 := hb3.cell 0
    have e1 := hb3.cell 1
    have e2 := hb3.cell 2
    have e3 := hb3.cell 3
    have g0 := hb3.frozen 0
    have g1 := hb3.frozen 1
    have g2 := hb3.frozen 2
    have g3 := hb3.frozen 3
    simp only [List.getElem?_toArray, List.getElem?_cons_succ, List.getElem?_cons_zero] at c0 c1 c2 c3 e0 e1 e2 e3
    have hval : Calls Try.prog 49 #[.agg #[.int .i64 D.n, .int .i64 ((D.st.length : Int) - 1), .slice Ai D.its.length ci, .slice As D.st.length cs], .int .i64 l] wc fun e w' => e = .returned (.int .i64 (valD D l)) ∧ Below wc.heap.size wc w' := rvalue (hX.out.new hBc).ref hok.out l
    replace hval := Lib.hid hval
    cases c with
    | true =>
      have hE := hcs.out.1 (by simpa using hc)
      subst hE
      clear hc hcs
      go_wp2_with fail
      obtain ⟨hf, hR, hB9⟩ := ref_close hX.out hb3 hBc rfl
      refine bodyPost_ret (results_cell_row_tmp rfl _ _ (w.heap.size + 1) 82 _ (0, 0) _ rfl hf Try.underlying82 rfl (by kernel_rfl)) rfl ?_
      exact ⟨_, rfl, hR, hB9⟩
    | false =>
      have hE := hcs.out.2 (by simpa using hc)
      clear hc hcs
      by_cases hr : r < 0 ∨ 1073741824 < r
      · have hE2 := hE.1 hr
        subst hE2
        clear hE
        by_cases hr1 : r < 0
        · clear hr
          go_wp2_with fail
          obtain ⟨hf, hR, hB9⟩ := ref_close hX.out hb3 hBc rfl
          refine bodyPost_ret (results_cell_row_tmp rfl _ _ (w.heap.size + 1) 82 _ (0, 0) _ rfl hf Try.underlying82 rfl (by kernel_rfl)) rfl ?_
          exact ⟨_, rfl, hR, hB9⟩
        · have hr2 : 1073741824 < r := hr.resolve_left hr1
          clear hr
          go_wp2_with fail
          obtain ⟨hf, hR, hB9⟩ := ref_close hX.out hb3 hBc rfl
          refine bodyPost_ret (results_cell_row_tmp rfl _ _ (w.heap.size + 1) 82 _ (0, 0) _ rfl hf Try.underlying82 rfl (by kernel_rfl)) rfl ?_
          exact ⟨_, rfl, hR, hB9⟩
      · have hE2 := hE.2 hr
        have hr1 : ¬ r < 0 := fun h => hr (.inl h)
        have hr2 : ¬ 1073741824 < r := fun h => hr (.inr h)
        clear hE hr
        obtain ⟨va, hva⟩ : ∃ va, valD D l = va := ⟨_, rfl⟩
        rw [hva] at hval hE2
        clear hva
        by_cases hv0 : va = 0
        · have hE3 := hE2.2 hv0
          subst hE3
          subst hv0
          clear hE2
          go_wp2_with (go_at_call 49; with_reducible refine hval.out.mono ?_; rintro e W0 ⟨rfl, hBW⟩; replace hb1 := hb1.below hBW hb1.lt; replace hb3 := hb3.below hBW hb3.lt; replace hBc := below_and hBc hBW; clear hval hBW c0 c1 c2 c3 e0 e1 e2 e3 g0 g1 g2 g3; clear wc)
          have hsz0 : 2 + w.heap.size ≤ W0.heap.size := by have := hb3.lt; omega
          have hb := hb1
          have hb2 := hb3
          have hB0 := hBc
          clear hb1 hb3 hBc
          have hBd : Below w.heap.size w W0.drew := ⟨hB0.os, hB0.tape, hB0.output, hB0.size, hB0.block⟩
          have b1 := hb.cell 1
          have b2 := hb.cell 2
          simp only [List.getElem?_toArray, List.getElem?_cons_succ, List.getElem?_cons_zero] at b1 b2
          have hsd : 2 + w.heap.size ≤ W0.drew.heap.size := hsz0
          have hlt1 : w.heap.size < W0.heap.size := by omega
          have hlt2 : w.heap.size + 1 < W0.heap.size := by omega
          have hAl1 : Below w.heap.size w (W0.alloc (.cells #[] 93)).drew := below_dr (hB0.alloc (by omega) _)
          have hAl2 : Below w.heap.size w ((W0.alloc (.cells #[] 93)).alloc (.cells #[.int .i64 l, .int .i64 r, .int .i64 ((D.st.length : Int) - 1)] 93)).drew := below_dr ((hB0.alloc (by omega) _).alloc (by simp; omega) _)
          have hAl3 : Below w.heap.size w ((W0.alloc (.cells #[.int .i64 l, .int .i64 r, .int .i64 ((D.st.length : Int) - 1)] 93)).alloc (.cells #[] 93)).drew := below_dr ((hB0.alloc (by omega) _).alloc (by simp; omega) _)
          have hE3 : (((W0.alloc (.cells #[.int .i64 l, .int .i64 r, .int .i64 ((D.st.length : Int) - 1)] 93)).alloc (.cells #[] 93)).drew).ownsRow w.heap.size 93 3 (.slice (some ⟨W0.heap.size + 1, 0, none⟩) 0 0) 0 [] := by
            have := empty_row (W0.alloc (.cells #[.int .i64 l, .int .i64 r, .int .i64 ((D.st.length : Int) - 1)] 93)) 93 3 w.heap.size (by simp; omega)
            rw [World.size_alloc] at this
            exact this
          have hE2 : (((W0.alloc (.cells #[] 93)).alloc (.cells #[.int .i64 l, .int .i64 r, .int .i64 ((D.st.length : Int) - 1)] 93)).drew).ownsRow w.heap.size 93 3 (.slice (some ⟨W0.heap.size, 0, none⟩) 0 0) 0 [] := by
            have h : ((W0.alloc (.cells #[] 93)).alloc (.cells #[.int .i64 l, .int .i64 r, .int .i64 ((D.st.length : Int) - 1)] 93)).ownsRow w.heap.size 93 3 (.slice (some ⟨W0.heap.size, 0, none⟩) 0 0) 0 [] := row_new (empty_row W0 93 3 w.heap.size (by omega)) ((Below.refl _ _).alloc (Nat.le_refl _) _)
            exact h
          have hL2 : ∀ (v1 : Value) (w1 : World), (((W0.alloc (.cells #[] 93)).alloc (.cells #[.int .i64 l, .int .i64 r, .int .i64 ((D.st.length : Int) - 1)] 93)).drew).grownBy w1 (Value.slice (some ⟨W0.heap.size, 0, none⟩) 0 0).ownBlock → Reads w1 (W0.heap.size + 1 + 1) 3 (some ⟨W0.heap.size + 1, 0, none⟩) 1 [.int .i64 l, .int .i64 r, .int .i64 ((D.st.length : Int) - 1)] := by
            intro v1 w1 hg
            have h := lit_reads3 (W0.alloc (.cells #[] 93)) 93 (.int .i64 l) (.int .i64 r) (.int .i64 ((D.st.length : Int) - 1))
            rw [World.size_alloc] at h
            refine ⟨rfl, fun h1 => ?_⟩
            obtain ⟨ad, e, _, hc⟩ := h.2 h1
            injection e with e
            subst e
            refine ⟨_, rfl, by simp, fun j u hu => ?_⟩
            exact (World.cell?_of_block (by rw [block_of_add]; exact hg.block (W0.heap.size + 1) (by show _ < ((W0.alloc (.cells #[] 93)).alloc (.cells #[.int .i64 l, .int .i64 r, .int .i64 ((D.st.length : Int) - 1)] 93)).heap.size; simp) (by simp [Value.ownBlock]))).trans (hc j u hu)
          have hL3 : ∀ (v1 : Value) (w1 : World), (((W0.alloc (.cells #[.int .i64 l, .int .i64 r, .int .i64 ((D.st.length : Int) - 1)] 93)).alloc (.cells #[] 93)).drew).grownBy w1 (Value.slice (some ⟨W0.heap.size + 1, 0, none⟩) 0 0).ownBlock → Reads w1 (W0.heap.size + 1) 3 (some ⟨W0.heap.size, 0, none⟩) 1 [.int .i64 l, .int .i64 r, .int .i64 ((D.st.length : Int) - 1)] := by
            intro v1 w1 hg
            have h := (lit_reads3 W0 93 (.int .i64 l) (.int .i64 r) (.int .i64 ((D.st.length : Int) - 1))).alloc (by simp) (.cells #[] 93)
            refine ⟨rfl, fun h1 => ?_⟩
            obtain ⟨ad, e, _, hc⟩ := h.2 h1
            injection e with e
            subst e
            refine ⟨_, rfl, by simp, fun j u hu => ?_⟩
            exact (World.cell?_of_block (by rw [block_of_add]; exact hg.block W0.heap.size (by show _ < ((W0.alloc (.cells #[.int .i64 l, .int .i64 r, .int .i64 ((D.st.length : Int) - 1)] 93)).alloc (.cells #[] 93)).heap.size; simp; omega) (by simp [Value.ownBlock]))).trans (hc j u hu)
          clear hsz0 hsd
          go_cut [42] from 31 to 42 (fun _ wx => AssAt w D l r As cs wx)
          case first =>
            go_region_law (first
              | (refine step_append_any (w := (W0.alloc (.cells #[] 93)).drew) (by rfl) _ _ 80 (by rfl) w.heap.size 93 j0 _ 3 24 Try.underlying80 hj hj0 hj1 hj2 rfl (by omega) (.slice (some ⟨W0.heap.size, 0, none⟩) 0 0) 0 [] (by rfl) ?_ w.heap.size Ai D.its.length ci (encIs D.its) (by rfl) ?_ ?_ ?_ ?_ ?_ ?_; (next => exact empty_row W0 93 3 w.heap.size (by omega)); (next => exact hI.below hAl1); (next => exact one_encIs _); (next => (simp only [maxLen]; omega)); (next => omega); (next => (show _ ≤ (W0.alloc (.cells #[] 93)).heap.size; simp; omega)); intro v1 w1 hown1 hg1 hat1; have hB1 := own_below hAl1 (by show _ ≤ (W0.alloc (.cells #[] 93)).heap.size; simp; omega) (empty_row W0 93 3 w.heap.size (by omega)) hg1; have hb1 := (Blk.drew (hb.alloc (.cells #[] 93))).grown hg1 (by simp [Value.ownBlock]; omega); have hq1 := (Blk.drew (hb2.alloc (.cells #[] 93))).grown hg1 (by simp [Value.ownBlock]; omega); have c1 := hb1.cell 1; have c2 := hb1.cell 2; have c3 := hb1.cell 3; have f2 := hb1.frozen 2; simp only [List.getElem?_toArray, List.getElem?_cons_succ, List.getElem?_cons_zero] at c1 c2 c3; have hlw := hb1.lt)
              | (refine step_append_any (w := ((W0.alloc (.cells #[] 93)).alloc (.cells #[.int .i64 l, .int .i64 r, .int .i64 ((D.st.length : Int) - 1)] 93)).drew) (by rfl) _ _ 80 (by rfl) w.heap.size 93 j0 _ 3 24 Try.underlying80 hj hj0 hj1 hj2 rfl (by omega) (.slice (some ⟨W0.heap.size, 0, none⟩) 0 0) 0 [] (by rfl) ?_ w.heap.size Ai D.its.length ci (encIs D.its) (by rfl) ?_ ?_ ?_ ?_ ?_ ?_; (next => exact hE2); (next => exact hI.below hAl2); (next => exact one_encIs _); (next => (simp only [maxLen]; omega)); (next => omega); (next => (show _ ≤ ((W0.alloc (.cells #[] 93)).alloc (.cells #[.int .i64 l, .int .i64 r, .int .i64 ((D.st.length : Int) - 1)] 93)).heap.size; simp; omega)); intro v1 w1 hown1 hg1 hat1; have hB1 := own_below hAl2 (by show _ ≤ ((W0.alloc (.cells #[] 93)).alloc (.cells #[.int .i64 l, .int .i64 r, .int .i64 ((D.st.length : Int) - 1)] 93)).heap.size; simp; omega) (hE2) hg1; have hb1 := (Blk.drew ((hb.alloc (.cells #[] 93)).alloc (.cells #[.int .i64 l, .int .i64 r, .int .i64 ((D.st.length : Int) - 1)] 93))).grown hg1 (by simp [Value.ownBlock]; omega); have hq1 := (Blk.drew ((hb2.alloc (.cells #[] 93)).alloc (.cells #[.int .i64 l, .int .i64 r, .int .i64 ((D.st.length : Int) - 1)] 93))).grown hg1 (by simp [Value.ownBlock]; omega); have c1 := hb1.cell 1; have c2 := hb1.cell 2; have c3 := hb1.cell 3; have f2 := hb1.frozen 2; simp only [List.getElem?_toArray, List.getElem?_cons_succ, List.getElem?_cons_zero] at c1 c2 c3; have hlw := hb1.lt; have hlit := hL2 v1 w1 hg1)
              | (refine step_append_any (w := ((W0.alloc (.cells #[.int .i64 l, .int .i64 r, .int .i64 ((D.st.length : Int) - 1)] 93)).alloc (.cells #[] 93)).drew) (by rfl) _ _ 80 (by rfl) w.heap.size 93 j0 _ 3 24 Try.underlying80 hj hj0 hj1 hj2 rfl (by omega) (.slice (some ⟨(W0.heap.size + 1), 0, none⟩) 0 0) 0 [] (by rfl) ?_ w.heap.size Ai D.its.length ci (encIs D.its) (by rfl) ?_ ?_ ?_ ?_ ?_ ?_; (next => exact hE3); (next => exact hI.below hAl3); (next => exact one_encIs _); (next => (simp only [maxLen]; omega)); (next => omega); (next => (show _ ≤ ((W0.alloc (.cells #[.int .i64 l, .int .i64 r, .int .i64 ((D.st.length : Int) - 1)] 93)).alloc (.cells #[] 93)).heap.size; simp; omega)); intro v1 w1 hown1 hg1 hat1; have hB1 := own_below hAl3 (by show _ ≤ ((W0.alloc (.cells #[.int .i64 l, .int .i64 r, .int .i64 ((D.st.length : Int) - 1)] 93)).alloc (.cells #[] 93)).heap.size; simp; omega) (hE3) hg1; have hb1 := (Blk.drew ((hb.alloc (.cells #[.int .i64 l, .int .i64 r, .int .i64 ((D.st.length : Int) - 1)] 93)).alloc (.cells #[] 93))).grown hg1 (by simp [Value.ownBlock]; omega); have hq1 := (Blk.drew ((hb2.alloc (.cells #[.int .i64 l, .int .i64 r, .int .i64 ((D.st.length : Int) - 1)] 93)).alloc (.cells #[] 93))).grown hg1 (by simp [Value.ownBlock]; omega); have c1 := hb1.cell 1; have c2 := hb1.cell 2; have c3 := hb1.cell 3; have f2 := hb1.frozen 2; simp only [List.getElem?_toArray, List.getElem?_cons_succ, List.getElem?_cons_zero] at c1 c2 c3; have hlw := hb1.lt; have hlit := hL3 v1 w1 hg1)
              | (refine step_append_any (w := w1.alloc (.cells #[.int .i64 l, .int .i64 r, .int .i64 ((D.st.length : Int) - 1)] 93)) (by rfl) _ _ 80 (by rfl) w.heap.size 93 j0 _ 3 24 Try.underlying80 hj hj0 hj1 hj2 rfl (by omega) v1 (0 + D.its.length) ([] ++ encIs D.its) (by rfl) ?_ (w1.heap.size + 1) (some ⟨w1.heap.size, 0, none⟩) 1 1 [.int .i64 l, .int .i64 r, .int .i64 ((D.st.length : Int) - 1)] (by rfl) ?_ ?_ ?_ ?_ ?_ ?_; (next => exact row_new hown1 ((Below.refl _ _).alloc (Nat.le_refl _) _)); (next => exact lit_reads3 w1 93 _ _ _); (next => simp [Value.oneCell']); (next => (simp only [maxLen]; omega)); (next => omega); (next => first | omega | (simp; omega) | simp); intro v2 w2 hown2 hg2 hat2; have hB2 := own_below (hB1.alloc (by omega) _) (by first | omega | (rw [World.size_alloc]; omega)) (row_new hown1 ((Below.refl _ _).alloc (Nat.le_refl _) _)) hg2; have hb2' := (hb1.alloc (.cells #[.int .i64 l, .int .i64 r, .int .i64 ((D.st.length : Int) - 1)] 93)).grown hg2 (fun e => by have h0 := hat1; rw [← e] at h0; simp [Value.ownBlock] at h0; omega); have hq2 := (hq1.alloc (.cells #[.int .i64 l, .int .i64 r, .int .i64 ((D.st.length : Int) - 1)] 93)).grown hg2 (fun e => by have h0 := hat1; rw [← e] at h0; simp [Value.ownBlock] at h0; omega); have d1 := hb2'.cell 1; have d2 := hb2'.cell 2; have d3 := hb2'.cell 3; have g2 := hb2'.frozen 2; simp only [List.getElem?_toArray, List.getElem?_cons_succ, List.getElem?_cons_zero] at d1 d2 d3; have hlw2 := hb2'.lt; obtain ⟨A9, c9, rfl⟩ := own_form hown2)
              | (refine step_append_any (w := w1) (by rfl) _ _ 80 (by rfl) w.heap.size 93 j0 _ 3 24 Try.underlying80 hj hj0 hj1 hj2 rfl (by omega) v1 (0 + D.its.length) ([] ++ encIs D.its) (by rfl) ?_ (W0.heap.size + 1 + 1) (some ⟨(W0.heap.size + 1), 0, none⟩) 1 1 [.int .i64 l, .int .i64 r, .int .i64 ((D.st.length : Int) - 1)] (by rfl) ?_ ?_ ?_ ?_ ?_ ?_; (next => exact hown1); (next => exact hlit); (next => simp [Value.oneCell']); (next => (simp only [maxLen]; omega)); (next => omega); (next => first | omega | (simp; omega) | simp); intro v2 w2 hown2 hg2 hat2; have hB2 := own_below hB1 (by first | omega | (rw [World.size_alloc]; omega)) (hown1) hg2; have hb2' := (hb1).grown hg2 (fun e => by have h0 := hat1; rw [← e] at h0; simp [Value.ownBlock] at h0; omega); have hq2 := (hq1).grown hg2 (fun e => by have h0 := hat1; rw [← e] at h0; simp [Value.ownBlock] at h0; omega); have d1 := hb2'.cell 1; have d2 := hb2'.cell 2; have d3 := hb2'.cell 3; have g2 := hb2'.frozen 2; simp only [List.getElem?_toArray, List.getElem?_cons_succ, List.getElem?_cons_zero] at d1 d2 d3; have hlw2 := hb2'.lt; obtain ⟨A9, c9, rfl⟩ := own_form hown2)
              | (refine step_append_any (w := w1) (by rfl) _ _ 80 (by rfl) w.heap.size 93 j0 _ 3 24 Try.underlying80 hj hj0 hj1 hj2 rfl (by omega) v1 (0 + D.its.length) ([] ++ encIs D.its) (by rfl) ?_ (W0.heap.size + 1) (some ⟨W0.heap.size, 0, none⟩) 1 1 [.int .i64 l, .int .i64 r, .int .i64 ((D.st.length : Int) - 1)] (by rfl) ?_ ?_ ?_ ?_ ?_ ?_; (next => exact hown1); (next => exact hlit); (next => simp [Value.oneCell']); (next => (simp only [maxLen]; omega)); (next => omega); (next => first | omega | (simp; omega) | simp); intro v2 w2 hown2 hg2 hat2; have hB2 := own_below hB1 (by first | omega | (rw [World.size_alloc]; omega)) (hown1) hg2; have hb2' := (hb1).grown hg2 (fun e => by have h0 := hat1; rw [← e] at h0; simp [Value.ownBlock] at h0; omega); have hq2 := (hq1).grown hg2 (fun e => by have h0 := hat1; rw [← e] at h0; simp [Value.ownBlock] at h0; omega); have d1 := hb2'.cell 1; have d2 := hb2'.cell 2; have d3 := hb2'.cell 3; have g2 := hb2'.frozen 2; simp only [List.getElem?_toArray, List.getElem?_cons_succ, List.getElem?_cons_zero] at d1 d2 d3; have hlw2 := hb2'.lt; obtain ⟨A9, c9, rfl⟩ := own_form hown2))
            all_goals
              have hset := hb2'.set_ 2 (.slice A9 (0 + D.its.length + 1) c9)
              have hw2 : w.heap.size < w2.heap.size := hb2'.lt
              have hfin : AssAt w D l r As cs (w2.setCell ⟨w.heap.size, 2, none⟩ (.slice A9 (0 + D.its.length + 1) c9)) :=
                ⟨A9, c9, by simpa using hset, hq2.far (by show _ ≠ w.heap.size; omega) _, by
                  have q := own_only hown2 ((Only.refl [w.heap.size] w2).setCell (p := ⟨w.heap.size, 2, none⟩) (.inl (by simp)) (.slice A9 (0 + D.its.length + 1) c9)) (fun i hi hm => by have h1 := List.mem_singleton.1 hm; rcases hat2 with h | h <;> rw [h] at hi <;> (try rcases hat1 with h' | h' <;> (try rw [h'] at hi)) <;> simp [Value.ownBlock] at hi <;> omega)
                  simpa [encIs_snoc, encI, hnow] using q, hB2.setCell (Nat.le_refl _) _⟩
              simp only [Nat.zero_add] at hfin
              go_wp2
              go_meet
              exact hfin
          case rest =>
            obtain ⟨A9, c9, h1, h2, h3, h4⟩ := hcut
            have c0 := h1.cell 0
            have c1 := h1.cell 1
            have c2 := h1.cell 2
            have c3 := h1.cell 3
            have e0 := h2.cell 0
            have e1 := h2.cell 1
            have e2 := h2.cell 2
            have e3 := h2.cell 3
            have g0 := h2.frozen 0
            have g1 := h2.frozen 1
            have g2 := h2.frozen 2
            have g3 := h2.frozen 3
            simp only [List.getElem?_toArray, List.getElem?_cons_succ, List.getElem?_cons_zero] at c0 c1 c2 c3 e0 e1 e2 e3
            go_wp2_with fail
            obtain ⟨hf, hR, hB9⟩ := ref_close_new (D' := if (0 : Int) = 0 then asg D l r else D) hfp.out hX.out k3 k4 h2 h3 h4 rfl (if_pos rfl).symm
            refine bodyPost_ret (results_cell_row_tmp rfl _ _ (w.heap.size + 1) 82 _ (0, 0) _ rfl hf Try.underlying82 rfl (by kernel_rfl)) rfl ?_
            exact ⟨_, rfl, hR, hB9⟩
        · have hE3 := hE2.1 hv0
          subst hE3
          clear hE2
          have hvb : (va != 0) = true := by simpa using hv0
          clear hv0
          go_wp2_with (go_at_call 49; with_reducible refine hval.out.mono ?_; rintro e W0 ⟨rfl, hBW⟩; replace hb1 := hb1.below hBW hb1.lt; replace hb3 := hb3.below hBW hb3.lt; replace hBc := below_and hBc hBW; clear hval hBW c0 c1 c2 c3 e0 e1 e2 e3 g0 g1 g2 g3; clear wc; have c0 := hb1.cell 0; have c1 := hb1.cell 1; have c2 := hb1.cell 2; have c3 := hb1.cell 3; have e0 := hb3.cell 0; have e1 := hb3.cell 1; have e2 := hb3.cell 2; have e3 := hb3.cell 3; have g0 := hb3.frozen 0; have g1 := hb3.frozen 1; have g2 := hb3.frozen 2; have g3 := hb3.frozen 3; simp only [List.getElem?_toArray, List.getElem?_cons_succ, List.getElem?_cons_zero] at c0 c1 c2 c3 e0 e1 e2 e3)
          obtain ⟨hf, hR, hB9⟩ := ref_close hX.out hb3 hBc rfl
          refine bodyPost_ret (results_cell_row_tmp rfl _ _ (w.heap.size + 1) 82 _ (0, 0) _ rfl hf Try.underlying82 rfl (by kernel_rfl)) rfl ?_
          exact ⟨_, rfl, hR, hB9⟩
end Go.Proofs.Ytkedepkhcbhcdaa
