/- Trails: the iterators. -/
import Derived.Test.YtkedepkhcbhcdaaTrlD
import Derived.WalkMore
namespace Go.Proofs.Ytkedepkhcbhcdaa
open Go Go.RowKit Go.Shelf
set_option linter.unusedVariables false
set_option linter.unusedSimpArgs false
set_option maxHeartbeats 4000000
attribute [local go_sem] Oper.semAt_some
/-- What is on a trail, in memory. -/
structure Ordr (W : World) (base d : Nat) (A : Option Addr) (c : Nat) (ls : List Int) : Prop where
  hd : ∃ vs vt, Blk W d 63 #[vs, .slice A ls.length c, vt, .bool true]
  ho : W.ownsRow base 27 1 (.slice A ls.length c) ls.length (litV ls)
  few : ls.length ≤ 1048576
section
variable {w w' : World} {base d : Nat} {A : Option Addr} {c : Nat} {ls : List Int}
theorem Ordr.c1 (h : Ordr w base d A c ls) : w.cell? ⟨d, 1, none⟩ = some (.slice A ls.length c) := by
  obtain ⟨vs, vt, hd⟩ := h.hd
  simpa using hd.cell 1
theorem Ordr.c3 (h : Ordr w base d A c ls) : w.cell? ⟨d, 3, none⟩ = some (.bool true) := by
  obtain ⟨vs, vt, hd⟩ := h.hd
  simpa using hd.cell 3
theorem Ordr.litAt (h : Ordr w base d A c ls) {k : Nat} {x : Int} (hx : ls[k]? = some x) : ∃ g, A = some ⟨g, 0, none⟩ ∧ k < ls.length ∧ w.cell? ⟨g, k, none⟩ = some (.int .i64 x) := by
  have hlt := (List.getElem?_eq_some_iff.1 hx).1
  obtain ⟨g, cap, hv, _, _⟩ := h.ho.form (by omega)
  have hA : A = some ⟨g, 0, none⟩ := by injection hv
  subst hA
  refine ⟨g, rfl, hlt, ?_⟩
  rw [h.ho.cellAt k (by omega), litV, List.getElem?_map, hx]
  rfl
theorem ordr_of {vs vo vt : Value} {D : Trl} (h : Trm w base d vs vo vt D) : ∃ A c, vo = .slice A D.its.length c ∧ Ordr w base d A c (lits D) := by
  obtain ⟨A, c, rfl⟩ := own_form h.ho
  have hl : (lits D).length = D.its.length := by simp [lits]
  have := h.ok.few
  have := h.ok.n0
  refine ⟨A, c, rfl, ?_⟩
  constructor
  · exact ⟨_, _, by rw [hl]; exact h.hd⟩
  · rw [hl]; exact h.ho
  · omega
theorem Trail.ordr {fp : List Nat} {D : Trl} (h : Trail w base d fp D) : ∃ A c, Ordr w base d A c (lits D) := by
  obtain ⟨vs, vo, vt, h, rfl⟩ := h
  obtain ⟨A, c, _, h⟩ := ordr_of h
  exact ⟨A, c, h⟩
theorem len_ordr (h : Ordr w base d A c ls) : Calls Try.prog 23 #[.pointer (some ⟨d, 0, none⟩)] w fun e w' => e = .returned (.int .i64 (ls.length : Int)) ∧ w = w' := by
  have c1 := h.c1
  have c3 := h.c3
  have hi : Calls Try.prog 34 #[.pointer (some ⟨d, 0, none⟩)] w fun e w' => e = .returned (.bool true) ∧ w = w' := by
    go_enter Try.func34, Try.ntmps34
    go_wp2
    go_ret
    exact ⟨rfl, rfl⟩
  replace hi := Lib.hid hi
  clear h
  go_enter Try.func23, Try.ntmps23
  go_wp2_with (go_at_call 34; refine hi.out.mono ?_; rintro e w' ⟨rfl, rfl⟩)
  go_ret
  exact ⟨rfl, rfl⟩
end
theorem lits28 (d : Nat) (f : Int) (w : World) : Calls Try.prog 28 #[.pointer (some ⟨d, 0, none⟩), .int .i64 f] w fun e w' => e = .returned (.func (.func 40) #[] #[.pointer (some ⟨w.heap.size + 1, 0, none⟩), .pointer (some ⟨w.heap.size, 0, none⟩)]) ∧ (w.alloc (.cells #[.pointer (some ⟨d, 0, none⟩)] 23)).alloc (.cells #[.int .i64 f] 3) = w' := by
  go_enter Try.func28, Try.ntmps28
  go_wp2
  go_ret
  exact ⟨rfl, rfl⟩
theorem down29 (d : Nat) (w : World) : Calls Try.prog 29 #[.pointer (some ⟨d, 0, none⟩)] w fun e w' => e = .returned (.func (.func 41) #[] #[.pointer (some ⟨w.heap.size, 0, none⟩)]) ∧ w.alloc (.cells #[.pointer (some ⟨d, 0, none⟩)] 23) = w' := by
  go_enter Try.func29, Try.ntmps29
  go_wp2
  go_ret
  exact ⟨rfl, rfl⟩
def enc2 (y : Nat × Int) : Array Value := #[.int .i64 y.1, .int .i64 y.2]
/-- What the iterators read. -/
def RdL (base d Bf Bt : Nat) (f : Int) (W : World) : Prop := Blk W Bf 3 #[.int .i64 f] ∧ Blk W Bt 23 #[.pointer (some ⟨d, 0, none⟩)] ∧ ∃ A c ls, Ordr W base d A c ls
set_option maxRecDepth 100000 in
theorem seq40 (base d Bf Bt : Nat) (f : Int) (fb : -9223372036854775808 ≤ f ∧ f ≤ 9223372036854775807) :
    Seq Try.prog 40 #[.pointer (some ⟨Bf, 0, none⟩), .pointer (some ⟨Bt, 0, none⟩)] enc2 (fun _ W => RdL base d Bf Bt f W)
      (fun pre W y => y.1 = f.toNat + pre.length ∧ ∃ A c ls, Ordr W base d A c ls ∧ ls[y.1]? = some y.2) (fun xs W => ∃ A c ls, Ordr W base d A c ls ∧ ls.length ≤ f.toNat + xs.length) := by
  intro m l J Jx W fp hJ hJx hRd hfp hY h0
  obtain ⟨hbf, hbt, _⟩ := hRd _ _ _ h0
  have b0 := hbf.cell 0
  simp only [List.getElem?_toArray, List.getElem?_cons_zero] at b0
  obtain ⟨fn, hfn⟩ : ∃ fn : Nat, f.toNat = fn := ⟨_, rfl⟩
  have hfm : max f 0 = (fn : Int) := by omega
  rw [hfn] at hY ⊢
  have hfb : fn ≤ 9223372036854775807 := by omega
  clear hbf hbt
  have key : CallsIn Fence.wide m Try.prog 40 (#[.func (.yield l) #[] #[]] ++ #[.pointer (some ⟨Bf, 0, none⟩), .pointer (some ⟨Bt, 0, none⟩)]) W fun e W' => (∃ v, e = .returned v) ∧ ((∃ fp xs, (∃ A c ls, Ordr W' base d A c ls ∧ ls.length ≤ fn + xs.length) ∧ J fp xs W') ∨ (∃ pre, Jx pre W')) := by
    refine callsIn_of_wp Try.func40 rfl trivial ?_ rfl
    simp only [Try.ntmps40, List.size_toArray, List.length_cons, List.length_nil, Nat.reduceAdd, Nat.reduceSub, Array.replicate_succ, Array.replicate_zero, List.push_toArray, List.append_toArray, List.nil_append, List.cons_append]
    gi_wp2
    all_goals
      gi_loopw [4] (fun i wr => ∃ (fp : List Nat) (pre : List (Nat × Int)), i = .int .i64 ((fn : Int) + pre.length) ∧ (pre = [] ∨ fn + pre.length ≤ 1048576) ∧ J fp pre wr) (fun i _ => (1048577 - intOf i).toNat)
      case atStart => exact ⟨fp, [], by congr 1; simp; omega, .inl rfl, h0⟩
      case round =>
        obtain ⟨fp, pre, rfl, hpre, hJs⟩ := hrel
        obtain ⟨_, hbt, A, c, ls, hO⟩ := hRd _ _ _ hJs
        have b1 := hbt.cell 0
        simp only [List.getElem?_toArray, List.getElem?_cons_zero] at b1
        obtain ⟨kk, hkk⟩ : ∃ kk : Nat, fn + pre.length = kk := ⟨_, rfl⟩
        have hki : (fn : Int) + (pre.length : Int) = (kk : Int) := by omega
        rw [hki]
        have hkb : (kk : Int) ≤ 9223372036854775807 := by
          rcases hpre with rfl | h
          · simp at hkk; omega
          · omega
        have hfew := hO.few
        have hlen := len_ordr hO
        have c1 := hO.c1
        by_cases hlt : kk < ls.length
        · have hx : ls[kk]? = some (ls[kk]'hlt) := List.getElem?_eq_getElem hlt
          generalize ls[kk]'hlt = x at hx
          obtain ⟨g, rfl, _, q0⟩ := hO.litAt hx
          obtain ⟨fn2, tmps, assign, body, hy, hR⟩ := hY (m - 1) fp pre (kk, x) wr hJs ⟨hkk.symm, _, c, ls, hO, hx⟩
          have k1 : (kk : Int) < (ls.length : Int) := by omega
          have k0 : 0 ≤ (kk : Int) := by omega
          dsimp only [enc2] at hy hR
          replace hx := Lib.hid hx
          replace hki := Lib.hid hki
          replace hkk := Lib.hid hkk
          replace hpre := Lib.hid hpre
          replace hlen := Lib.hid hlen
          replace hO := Lib.hid hO
          generalize ls.length = N at *
          gi_wp2_with (refine ⟨trivial, no_depth, ?_⟩; gi_at_call 23; refine (callsIn_wide.2 hlen.out).mono ?_; rintro e w' ⟨rfl, rfl⟩)
          refine ⟨no_depth, ?_⟩
          refine hR.mono ?_
          rintro e W3 (⟨rfl, ⟨fp', hJ3, hf3⟩, _⟩ | ⟨rfl, hJx3, _⟩)
          · gi_wp2
            go_roundw
            case rel => exact ⟨fp', _, by have := hki.out; congr 1; simp; omega, .inr (by have := hkk.out; simp; omega), hJ3⟩
            case measure => simp [intOf]; omega
          · gi_wp2
            refine bodyPost_ret (results_none rfl _ _ _) rfl ?_
            exact ⟨⟨_, rfl⟩, .inr ⟨_, hJx3⟩⟩
        · have k1 : ¬ (kk : Int) < (ls.length : Int) := by omega
          replace hki := Lib.hid hki
          replace hpre := Lib.hid hpre
          replace hlen := Lib.hid hlen
          gi_wp2_with (refine ⟨trivial, no_depth, ?_⟩; gi_at_call 23; refine (callsIn_wide.2 hlen.out).mono ?_; rintro e w' ⟨rfl, rfl⟩)
          go_end0
          exact ⟨⟨_, rfl⟩, .inl ⟨fp, pre, ⟨A, c, ls, hO, by omega⟩, hJs⟩⟩
  exact key
theorem Ordr.uniq {W : World} {base base' d : Nat} {A A' : Option Addr} {c c' : Nat} {ls ls' : List Int} (h : Ordr W base d A c ls) (h' : Ordr W base' d A' c' ls') : ls = ls' := by
  have e := h.c1.symm.trans h'.c1
  injection e with e
  injection e with e1 e2 e3
  apply List.ext_getElem?
  intro k
  by_cases hk : k < ls.length
  · have hx : ls[k]? = some (ls[k]'hk) := List.getElem?_eq_getElem hk
    have hx' : ls'[k]? = some (ls'[k]'(by omega)) := List.getElem?_eq_getElem (by omega)
    rw [hx, hx']
    generalize ls[k]'hk = x at hx
    generalize ls'[k]'(by omega) = x' at hx'
    obtain ⟨g, rfl, _, q⟩ := h.litAt hx
    obtain ⟨g', e', _, q'⟩ := h'.litAt hx'
    rw [← e1] at e'
    injection e' with e'
    injection e' with e'
    subst e'
    have := q.symm.trans q'
    injection this with this
    injection this with _ this
    rw [this]
  · rw [List.getElem?_eq_none (by omega), List.getElem?_eq_none (by omega)]
/-- The place that came last; at first, how many there were. -/
def lastI (n0 : Nat) (pre : List (Nat × Int)) : Nat := match pre.getLast? with | none => n0 | some y => y.1
theorem lastI_snoc (n0 : Nat) (pre : List (Nat × Int)) (y : Nat × Int) : lastI n0 (pre ++ [y]) = y.1 := by simp [lastI]
def RdD (base d Bt n0 : Nat) (pre : List (Nat × Int)) (W : World) : Prop := Blk W Bt 23 #[.pointer (some ⟨d, 0, none⟩)] ∧ ∃ A c ls, Ordr W base d A c ls ∧ (pre = [] → ls.length = n0)
set_option maxRecDepth 100000 in
theorem seq41 (base d Bt n0 : Nat) :
    Seq Try.prog 41 #[.pointer (some ⟨Bt, 0, none⟩)] enc2 (fun pre W => RdD base d Bt n0 pre W)
      (fun pre W y => ∃ A c ls, Ordr W base d A c ls ∧ y.1 + 1 = min (lastI n0 pre) ls.length ∧ ls[y.1]? = some y.2) (fun xs W => ∃ A c ls, Ordr W base d A c ls ∧ min (lastI n0 xs) ls.length = 0) := by
  intro m l J Jx W fp hJ hJx hRd hfp hY h0
  obtain ⟨hbt, A, c, ls, hO, hn0⟩ := hRd _ _ _ h0
  replace hn0 := hn0 rfl
  have b0 := hbt.cell 0
  simp only [List.getElem?_toArray, List.getElem?_cons_zero] at b0
  have hfew := hO.few
  have hst : ∃ A c ls', Ordr W base d A c ls' ∧ min ls.length ls'.length = min (lastI n0 []) ls'.length := ⟨A, c, ls, hO, by rw [← hn0]; rfl⟩
  have hlen := len_ordr hO
  generalize ls.length = N at *
  subst hn0
  replace hlen := Lib.hid hlen
  clear hbt
  have key : CallsIn Fence.wide m Try.prog 41 (#[.func (.yield l) #[] #[]] ++ #[.pointer (some ⟨Bt, 0, none⟩)]) W fun e W' => (∃ v, e = .returned v) ∧ ((∃ fp xs, (∃ A c ls, Ordr W' base d A c ls ∧ min (lastI N xs) ls.length = 0) ∧ J fp xs W') ∨ (∃ pre, Jx pre W')) := by
    refine callsIn_of_wp Try.func41 rfl trivial ?_ rfl
    simp only [Try.ntmps41, List.size_toArray, List.length_cons, List.length_nil, Nat.reduceAdd, Nat.reduceSub, Array.replicate_succ, Array.replicate_zero, List.push_toArray, List.append_toArray, List.nil_append, List.cons_append]
    refine wpIn_wide.2 (wp_scope_straight ?_)
    refine (wpIn_wide (n := m)).1 ?_
    refine wpIn_seq_k (fun K hK => wpIn_label ?_)
    show K _ _
    refine hK _ _ ?_
    clear hK K
    gi_wp2_with (refine ⟨trivial, no_depth, ?_⟩; gi_at_call 23; refine (callsIn_wide.2 hlen.out).mono ?_; rintro e w' ⟨rfl, rfl⟩)
    replace hst := Lib.hid hst
    gi_loopw [3] (fun i wr => ∃ (fp : List Nat) (pre : List (Nat × Int)) (i1 : Nat), i = .int .i64 ((i1 : Int) - 1) ∧ i1 ≤ 1048576 ∧ J fp pre wr ∧ ∃ A c ls, Ordr wr base d A c ls ∧ min i1 ls.length = min (lastI N pre) ls.length) (fun i _ => (intOf i + 1).toNat)
    case atStart => exact ⟨fp, [], N, rfl, hfew, h0, hst.out⟩
    case round =>
      clear hst b0 h0
      obtain ⟨fp, pre, i1, rfl, hi1, hJs, A, c, ls, hO, hmin⟩ := hrel
      obtain ⟨hbt, _⟩ := hRd _ _ _ hJs
      have b1 := hbt.cell 0
      simp only [List.getElem?_toArray, List.getElem?_cons_zero] at b1
      have hlen := len_ordr hO
      have c1 := hO.c1
      have hfew := hO.few
      clear hbt
      by_cases h1 : i1 = 0
      · subst h1
        have e1 : ((0 : Nat) : Int) - 1 = -1 := rfl
        rw [e1]
        replace hmin := Lib.hid hmin
        gi_wp2
        rw [Exit.noGoto_normal]
        go_end0
        exact ⟨⟨_, rfl⟩, .inl ⟨fp, pre, ⟨A, c, ls, hO, by have := hmin.out; omega⟩, hJs⟩⟩
      · obtain ⟨k, rfl⟩ : ∃ k, i1 = k + 1 := ⟨i1 - 1, by omega⟩
        have hki : ((k + 1 : Nat) : Int) - 1 = (k : Int) := by omega
        rw [hki]
        have k0 : 0 ≤ (k : Int) := by omega
        by_cases hlt : k < ls.length
        · have hx : ls[k]? = some (ls[k]'hlt) := List.getElem?_eq_getElem hlt
          generalize ls[k]'hlt = x at hx
          obtain ⟨g, rfl, _, q0⟩ := hO.litAt hx
          obtain ⟨fn2, tmps, assign, body, hy, hR⟩ := hY (m - 1) fp pre (k, x) wr hJs ⟨_, c, ls, hO, by show k + 1 = _; omega, hx⟩
          have k1 : (k : Int) < (ls.length : Int) := by omega
          have k2 : ¬ (ls.length : Int) ≤ (k : Int) := by omega
          have k3 : decide ((ls.length : Int) ≤ (k : Int)) = false := by simp; omega
          dsimp only [enc2] at hy hR
          replace hx := Lib.hid hx
          replace hki := Lib.hid hki
          replace hmin := Lib.hid hmin
          replace hlen := Lib.hid hlen
          replace hO := Lib.hid hO
          generalize ls.length = M at *
          gi_wp2_with (refine ⟨trivial, no_depth, ?_⟩; gi_at_call 23; refine (callsIn_wide.2 hlen.out).mono ?_; rintro e w' ⟨rfl, rfl⟩)
          refine ⟨no_depth, ?_⟩
          refine hR.mono ?_
          rintro e W3 (⟨rfl, ⟨fp', hJ3, hf3⟩, _⟩ | ⟨rfl, hJx3, _⟩)
          · obtain ⟨_, A3, c3, ls3, hO3, _⟩ := hRd _ _ _ hJ3
            gi_wp2
            go_roundw
            case rel => exact ⟨fp', _, k, rfl, by omega, hJ3, A3, c3, ls3, hO3, by rw [lastI_snoc]⟩
            case measure => simp [intOf]
          · gi_wp2
            rw [Exit.noGoto_ret]
            refine bodyPost_ret (results_none rfl _ _ _) rfl ?_
            exact ⟨⟨_, rfl⟩, .inr ⟨_, hJx3⟩⟩
        · have k1 : ¬ (k : Int) < (ls.length : Int) := by omega
          have k3 : decide ((ls.length : Int) ≤ (k : Int)) = true := by simp; omega
          replace hki := Lib.hid hki
          replace hmin := Lib.hid hmin
          replace hlen := Lib.hid hlen
          replace hO := Lib.hid hO
          generalize hM : ls.length = M at *
          replace hM := Lib.hid hM
          gi_wp2_with (refine ⟨trivial, no_depth, ?_⟩; gi_at_call 23; refine (callsIn_wide.2 hlen.out).mono ?_; rintro e w' ⟨rfl, rfl⟩)
          go_roundw
          case rel => exact ⟨fp, pre, k, rfl, by omega, hJs, A, c, ls, hO.out, by have := hmin.out; rw [hM.out]; omega⟩
          case measure => simp [intOf]
  exact key
end Go.Proofs.Ytkedepkhcbhcdaa
