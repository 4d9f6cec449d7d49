/- Arenas: same. -/
import Derived.Test.YtlcfgpkokaiogaaRfD
import Derived.Test.YtlcfgpkokaiogaaArT
import Derived.Deep.CutBlock
import Derived.Test.YtlcfgpkokaiogaaJoin2
import Derived.Sort.CutIn
import Derived.Stop.RegionWithIn
namespace Go.Proofs.Ytlcfgpkokaiogaa
open Go Go.RowKit Go.Shelf
set_option linter.unusedVariables false
set_option linter.unusedSimpArgs false
set_option maxHeartbeats 4000000
attribute [local go_sem] Oper.semAt_some
/-- An operation of a region is taken first, its text read off a list. -/
theorem takeH {P : Program} {md : Region.Mode} {L : List Oper} {Q : Exit → Act → World → Prop} {S : World → Prop} (i : Nat) {oi : Oper} {v : Value} {fuel : Nat} {listed : Array Bool} {a : Act} {w : World} (hi : L[i]? = some oi)
    (hs : Region.noSelect L.toArray = true) (hf : Region.free md L.toArray listed i = true) (hr : (Region.ready md L.toArray listed).contains i = true)
    (hQ : ∀ c a w, Q (.panic c) (a.put oi.dst v) w → Q (.panic c) a w) (hw : Region.wanted oi (yielded L.toArray a.tmps) = true) (hS : S w) (hv : ∀ w, S w → (execOp a.eval oi).run P w = .ok (.value v) w)
    (h : wpAnyH P md L.toArray Q S fuel (listed.setIfInBounds i true) (a.put oi.dst v) w) : wpAnyH P md L.toArray Q S (fuel + 1) listed a w :=
  wpAnyH_take (by simpa using hi) hs hf hr hQ (Or.inl ⟨hw, hv⟩) hS h
/-- The one operation that may come up is a call. -/
theorem callH {P : Program} {md : Region.Mode} {L : List Oper} {Q : Exit → Act → World → Prop} {S : World → Prop} (i : Nat) {oi : Oper} {fuel : Nat} {listed : Array Bool} {a : Act} {w : World} (hi : L[i]? = some oi)
    (hr : Region.ready md L.toArray listed = [i])
    (h : ∀ K' : Act → World → Prop, Shut (∀ a w, S w → (S w → wpAnyH P md L.toArray Q S fuel (listed.setIfInBounds i true) a w) → K' a w) → if Region.wanted oi (yielded L.toArray a.tmps) = true then Oper.wp P oi a w K' Q else K' (a.put oi.dst undef) w) : wpAnyH P md L.toArray Q S (fuel + 1) listed a w :=
  wpAnyH_ready hr (by simp) (AllReadyH.cons (by simpa using hi) h AllReadyH.nil)
/-- The number of the last of the first ones. -/
def lastA (al : List (Nat × List Int)) : Nat → Nat
  | 0 => 0
  | k + 1 => match al[k]? with | some c => c.1 | none => 0
theorem lastA_succ {al : List (Nat × List Int)} {k : Nat} {c : Nat × List Int} (h : al[k]? = some c) : lastA al (k + 1) = c.1 := by
  show (match al[k]? with | some c => c.1 | none => 0) = _
  rw [h]
theorem nxtA {al : List (Nat × List Int)} {last k : Nat} (h : AOk al last) (hk : k ≤ al.length) : nxt al (lastA al k) = al[k]? := by
  have hlow : ∀ (j : Nat) (c : Nat × List Int), al[j]? = some c → j < k → c.1 ≤ lastA al k := by
    intro j c hj hjk
    cases k with
    | zero => omega
    | succ k =>
      have hk1 : k < al.length := by omega
      rw [lastA_succ (List.getElem?_eq_getElem hk1)]
      obtain ⟨hj1, rfl⟩ := List.getElem?_eq_some_iff.1 hj
      rcases Nat.lt_or_ge j k with h1 | h1
      · exact Nat.le_of_lt (List.pairwise_iff_getElem.1 h.so j k hj1 hk1 h1)
      · obtain rfl : j = k := by omega
        exact Nat.le_refl _
  have hhigh : ∀ (j : Nat) (c : Nat × List Int), al[j]? = some c → k ≤ j → lastA al k < c.1 := by
    intro j c hj hjk
    obtain ⟨hj1, rfl⟩ := List.getElem?_eq_some_iff.1 hj
    cases k with
    | zero => have := (h.id1 _ (List.getElem_mem hj1)).1; exact this
    | succ k =>
      have hk1 : k < al.length := by omega
      rw [lastA_succ (List.getElem?_eq_getElem hk1)]
      exact List.pairwise_iff_getElem.1 h.so k j hk1 hj1 (by omega)
  rcases Nat.lt_or_ge k al.length with h1 | h1
  · have hx : al[k]? = some al[k] := List.getElem?_eq_getElem h1
    rw [hx, nxt_some h.so]
    refine ⟨List.getElem_mem h1, by have := hhigh k _ hx (Nat.le_refl _); omega, fun c hc hid => ?_⟩
    obtain ⟨j, hj⟩ := List.mem_iff_getElem?.1 hc
    rcases Nat.lt_trichotomy j k with h2 | h2 | h2
    · have := hlow j c hj h2; omega
    · subst h2
      rw [hx] at hj
      cases hj
      exact Nat.le_refl _
    · obtain ⟨hj1, rfl⟩ := List.getElem?_eq_some_iff.1 hj
      exact Nat.le_of_lt (List.pairwise_iff_getElem.1 h.so k j h1 hj1 h2)
  · rw [List.getElem?_eq_none h1, nxt_none]
    intro c hc
    obtain ⟨j, hj⟩ := List.mem_iff_getElem?.1 hc
    have := hlow j c hj (by have := (List.getElem?_eq_some_iff.1 hj).1; omega)
    omega
/-- The elements came in order. -/
def PhA (al : List (Nat × List Int)) (pre : List Cl) : Prop := pre.length ≤ al.length ∧ lastId pre = lastA al pre.length
theorem PhA.zero (al : List (Nat × List Int)) : PhA al [] := ⟨Nat.zero_le _, rfl⟩
theorem PhA.step {al : List (Nat × List Int)} {last : Nat} {pre : List Cl} (h : PhA al pre) (ha : AOk al last) {y : Cl} (hn : nxt al (lastId pre) = some (y.id, y.ls)) : al[pre.length]? = some (y.id, y.ls) ∧ pre.length < al.length ∧ PhA al (pre ++ [y]) := by
  rw [h.2, nxtA ha h.1] at hn
  have h1 := (List.getElem?_eq_some_iff.1 hn).1
  refine ⟨hn, h1, by simp; omega, ?_⟩
  rw [lastId_snoc, List.length_append, List.length_singleton]
  rw [lastA_succ hn]
theorem PhA.end_ {al : List (Nat × List Int)} {last : Nat} {pre : List Cl} (h : PhA al pre) (ha : AOk al last) (hn : nxt al (lastId pre) = none) : pre.length = al.length := by
  rw [h.2, nxtA ha h.1] at hn
  have h1 := h.1
  rw [List.getElem?_eq_none_iff] at hn
  omega
theorem RefR.only {W W' : World} {B : Nat} {A : Option Addr} {n c bi : Nat} {es : List REn} (h : RefR W B A n c es) (ho : Only [bi] W W') {t : TypeId} {cs : Array Value} (hb : Blk W bi t cs) (ht : 85 ≠ t) (hB : B ≤ bi) (hBW : B ≤ W.heap.size) : RefR W' B A n c es :=
  ⟨own_only h.row ho (fun k hk hm => by rw [List.mem_singleton] at hm; subst hm; exact own_blk_ne h.row hb ht hk), h.len, fun e he => ⟨(h.ls e he).1.only ho hBW (by intro k hk; rw [List.mem_singleton] at hk; omega), (h.ls e he).2⟩, h.bd⟩
theorem only_ck {fq : List Nat} {W0 W W' : World} {B : Nat} (h : Only fq W0 W) (k : CellsKept B W W') (hB : W0.heap.size ≤ B) : Only fq W0 W' := by
  refine ⟨k.os.trans h.os, k.tape.trans h.tape, k.output.trans h.output, Nat.le_trans h.size k.size, fun i hi hn => ?_⟩
  have h1 : i < W.heap.size := by have := h.size; omega
  have h2 : W.heap[i]? = some W.heap[i] := Array.getElem?_eq_getElem h1
  rw [k.same i _ h2 (.inr (by omega)), ← h2]
  exact h.block i hi hn
/-- What the range keeps. -/
def SI (W1 : World) (bi : Nat) (al : List (Nat × List Int)) (fp : List Nat) (pre : List Cl) (W : World) : Prop := fp = [bi] ∧ Only [bi] W1 W ∧ Blk W bi 3 #[.int .i64 (pre.length : Int)] ∧ PhA al pre
section
variable {w : World} {A : Option Addr} {n c B base d : Nat} {fp : List Nat} {es : List REn} {last : Nat}
set_option maxRecDepth 100000 in
theorem same_in (m : Nat) (hm1 : 3 ≤ m) (hA : Arena w base d fp (alR es) last) (hR : RefR w B A n c es) (hB : B ≤ w.heap.size) :
    CallsIn Fence.wide m Try.prog 34 #[.pointer (some ⟨d, 0, none⟩), .agg #[.slice A n c, .int .i64 (last : Int)]] w fun e w' => e = .returned (.bool true) ∧ Below w.heap.size w w' := by
  refine callsIn_of_wp_marks Try.func34 rfl trivial ?_ rfl
  simp only [Try.ntmps34, List.size_toArray, List.length_cons, List.length_nil, Nat.reduceAdd, Nat.reduceSub, Array.replicate_succ, Array.replicate_zero, List.push_toArray, List.append_toArray, List.nil_append, List.cons_append]
  refine wpIn_wide.2 ?_
  have hus := hA.ok.us
  have hal : (alR es).length = n := by rw [alR_len]; exact hR.len
  have hbd := hR.bd
  have hused : ∀ W, Below w.heap.size w W → Calls Try.prog 45 #[.agg #[.slice A n c, .int .i64 (last : Int)]] W fun e w' => e = .returned (.int .i64 (usedL (alR es) : Int)) ∧ Below W.heap.size W w' := fun W hW => rused_ok (hR.below hB hW) (Nat.le_trans hB hW.size) hus
  obtain ⟨u, hu⟩ : ∃ u, u = usedL (alR es) := ⟨_, rfl⟩
  rw [← hu] at hused hus
  have q22 : ∀ W, Below w.heap.size w W → ∀ nn, Calls Try.prog 22 #[.pointer (some ⟨d, 0, none⟩)] (W.drewN nn) fun e w2 => e = .returned (.int .i64 (n : Int)) ∧ ∃ m, w2 = W.drewN m := fun W hW nn => by
    have := count_arena ((hA.new hW).new (below_drewN_ (Below.refl _ _) nn))
    rw [hal] at this
    exact this.mono fun e w' h => ⟨h.1, nn, h.2.symm⟩
  have q16 : ∀ W, Below w.heap.size w W → ∀ nn, Calls Try.prog 16 #[.pointer (some ⟨d, 0, none⟩)] (W.drewN nn) fun e w2 => e = .returned (.int .i64 (u : Int)) ∧ ∃ m, w2 = W.drewN m := fun W hW nn => by
    have := used_arena ((hA.new hW).new (below_drewN_ (Below.refl _ _) nn))
    rw [← hu] at this
    exact this.mono fun e w' h => ⟨h.1, nn, h.2.symm⟩
  have q24 : ∀ W, Below w.heap.size w W → ∀ nn, Calls Try.prog 24 #[.pointer (some ⟨d, 0, none⟩)] (W.drewN nn) fun e w2 => e = .returned (.int .i64 (last : Int)) ∧ ∃ m, w2 = W.drewN m := fun W hW nn => by
    have := last_arena ((hA.new hW).new (below_drewN_ (Below.refl _ _) nn))
    exact this.mono fun e w' h => ⟨h.1, nn, h.2.symm⟩
  obtain ⟨nh, hn1, hn2, q23⟩ : ∃ nh : Nat, u ≤ nh ∧ nh ≤ 2 * u + 64 ∧ ∀ W, Below w.heap.size w W → ∀ nn, Calls Try.prog 23 #[.pointer (some ⟨d, 0, none⟩)] (W.drewN nn) fun e w2 => e = .returned (.int .i64 (nh : Int)) ∧ ∃ m, w2 = W.drewN m := by
    have hA2 := hA
    obtain ⟨vs, va, es', h, h2, rfl⟩ := hA2
    refine ⟨(flat es').length, ?_, ?_, fun W hW nn => ?_⟩
    · rw [hu, ← h2, usedL_kept]; exact kept_flat es'
    · rw [hu, ← h2]; exact h.ok.held
    · obtain ⟨vs2, va2, es2, h3, h4, h5⟩ := (hA.new hW).new (below_drewN_ (Below.refl _ _) nn)
      have h6 : Arm (W.drewN nn) base d vs va es' last := by
        exact (h.new hW).new (below_drewN_ (Below.refl _ _) nn)
      exact (held_ok h6).mono fun e w' h => ⟨h.1, nn, h.2.symm⟩
  clear hu
  replace hused := Lib.hid hused
  replace q22 := Lib.hid q22
  replace q16 := Lib.hid q16
  replace q24 := Lib.hid q24
  replace q23 := Lib.hid q23
  go_upto_region 1 with (fail)
  have hW := ((Below.refl _ w).alloc (Nat.le_refl _) (.cells #[.slice A n c, .int .i64 (last : Int)] 64)).alloc (by simp) (.cells #[.bool false] 4)
  have k3 := (Blk.new w 64 #[.slice A n c, .int .i64 (last : Int)]).alloc (.cells #[.bool false] 4)
  have k4 := Blk.new (w.alloc (.cells #[.slice A n c, .int .i64 (last : Int)] 64)) 4 #[.bool false]
  rw [World.size_alloc] at k4
  have hWs : ((w.alloc (.cells #[.slice A n c, .int .i64 (last : Int)] 64)).alloc (.cells #[.bool false] 4)).heap.size = w.heap.size + 2 := by simp
  generalize (w.alloc (.cells #[.slice A n c, .int .i64 (last : Int)] 64)).alloc (.cells #[.bool false] 4) = W at *
  have c30 := k3.cell 0
  have c31 := k3.cell 1
  simp only [List.getElem?_toArray, List.getElem?_cons_zero, List.getElem?_cons_succ] at c30 c31
  go_upto_region 2 with (go_at_call 45; refine (hused.out _ hW).mono ?_; rintro e W2 ⟨rfl, hB2⟩)
  have hW2 := hW.trans (hB2.mono hW.size)
  have m3 := k3.below hB2 (by omega)
  have m4 := k4.below hB2 (by omega)
  have hs2 : w.heap.size + 2 ≤ W2.heap.size := by have := hB2.size; omega
  clear c30 c31 k3 k4 hW hB2 hWs hused
  have p22 := q22.out W2 hW2
  have p16 := q16.out W2 hW2
  have p24 := q24.out W2 hW2
  have p23 := q23.out W2 hW2
  clear q22 q16 q24 q23
  have c30 := m3.cell 0
  have c31 := m3.cell 1
  simp only [List.getElem?_toArray, List.getElem?_cons_zero, List.getElem?_cons_succ] at c30 c31
  have g1 : ((n : Int) != (n : Int)) = false := by simp
  have g2 : ((u : Int) != (u : Int)) = false := by simp
  have g3 : ((last : Int) != (last : Int)) = false := by simp
  have g4 : decide ((nh : Int) < (u : Int)) = false := by simp; omega
  have g5 : decide (2 * (u : Int) + 64 < (nh : Int)) = false := by simp; omega
  have g6 : decide (nh < u) = false := by simp; omega
  have hl3 : w.heap.size < W2.heap.size := by omega
  replace p22 := Lib.hid p22
  replace p16 := Lib.hid p16
  replace p24 := Lib.hid p24
  replace p23 := Lib.hid p23
  go_quiet (first
    | (go_at_call 22; with_reducible exact p22.out _)
    | (go_at_call 16; with_reducible exact p16.out _)
    | (go_at_call 24; with_reducible exact p24.out _)
    | (go_at_call 23; with_reducible exact p23.out _))
  have hB23 := below_drewN_ (Below.refl W2.heap.size W2) nq
  have hW3 := hW2.trans (hB23.mono hW2.size)
  have m33 := m3.below hB23 m3.lt
  have m43 := m4.below hB23 m4.lt
  have hs3 : w.heap.size + 2 ≤ (W2.drewN nq).heap.size := hs2
  clear p22 p16 p24 p23 c30 c31 hl3
  generalize W2.drewN nq = W3 at *
  clear hB23 m3 m4 hs2 hW2 g1 g2 g3 g4 g5 g6
  go_wp2_with (go_at_call 20; refine (all_ok _ _).mono ?_; rintro e w' ⟨rfl, rfl⟩)
  rename_i hcont
  replace hcont := Lib.hid hcont
  have hB4 : Below W3.heap.size W3 ((W3.alloc (.cells #[.int .i64 0] 3)).alloc (.cells #[.pointer (some ⟨d, 0, none⟩)] 31)) := ((Below.refl _ W3).alloc (Nat.le_refl _) _).alloc (by simp) _
  have kb := (Blk.new W3 3 #[.int .i64 0]).alloc (.cells #[.pointer (some ⟨d, 0, none⟩)] 31)
  have ka := Blk.new (W3.alloc (.cells #[.int .i64 0] 3)) 31 #[.pointer (some ⟨d, 0, none⟩)]
  rw [World.size_alloc] at ka
  have hs4 : ((W3.alloc (.cells #[.int .i64 0] 3)).alloc (.cells #[.pointer (some ⟨d, 0, none⟩)] 31)).heap.size = W3.heap.size + 2 := by simp
  have hW4 := hW3.trans (hB4.mono hW3.size)
  have m34 := m33.below hB4 m33.lt
  have m44 := m43.below hB4 m43.lt
  generalize (W3.alloc (.cells #[.int .i64 0] 3)).alloc (.cells #[.pointer (some ⟨d, 0, none⟩)] 31) = W4 at *
  obtain ⟨bi, hbi⟩ : ∃ bi, bi = W3.heap.size := ⟨_, rfl⟩
  rw [← hbi] at kb ka hs3 hs4 ⊢
  clear hW3 m33 m43 hB4 hbi
  have hA4 := hA.new hW4
  have hR4 := hR.below hB hW4
  have hok := hA.ok
  have hfb := hA.ge
  have hI0 : SI W4 bi (alR es) [bi] [] W4 := ⟨rfl, Only.refl _ _, kb, PhA.zero _⟩
  have hAk : ∀ fp' pre W, SI W4 bi (alR es) fp' pre W → Arena W base d fp (alR es) last := fun fp' pre W h => hA4.keep h.2.1 (fun k hk hm => by rw [List.mem_singleton] at hm; have := (hfb k hk).2; omega)
  have hRk : ∀ fp' pre W, SI W4 bi (alR es) fp' pre W → RefR W B A n c es := fun fp' pre W h => hR4.only h.2.1 kb (by decide) (by omega) (by omega)
  clear hA4 hR4
  refine (wpIn_wide (n := m)).1 ?_
  refine wpIn_range2_join rfl (enters_of Try.func42 (by kernel_rfl) rfl) (seq42 base d (bi + 1)) (fun _ => rfl)
    (SI W4 bi (alR es)) (fun _ _ => False)
    (fun fp' => ownFrom_of fun x W W' kk ⟨h1, h2, h3, h4⟩ => ⟨h1, only_ck h2 kk (Nat.le_refl _), h3.ck kk, h4⟩) (ownFrom_of fun _ _ _ _ h => h) (fun fp' pre W h => ⟨ka.only h.2.1 (by simp), _, _, _, hAk _ _ _ h⟩) [bi] (by simp; omega) hI0
    (fun T N fp' pre y a' W => AxC (updC T 47 48 7 8) (fun pre y => nxt (alR es) (lastId pre) = some (y.id, y.ls)) N pre y a' W) (fun N fp' pre y a' => own_axC) ?assign 0 (fun _ _ h => h) ?body
    (fun W => Only [bi] W4 W ∧ Blk W bi 3 #[.int .i64 (n : Int)]) ?done ?hE (fun _ _ h => h.elim) ?fin
  case assign =>
    intro l2 m2 fp' pre y V W5 K hI0 hI hO01 hX hK
    obtain ⟨fp2, al2, last2, hA2, hn2, hown⟩ := hX
    obtain ⟨_, rfl, rfl⟩ := (hAk _ _ _ hI0).uniq hA2
    have hfin := hK _ W5 (Only.refl [] _) hI ⟨rfl, hn2, hown⟩
    clear hK
    simp only [updC, List.setIfInBounds_toArray, List.set_cons_succ, List.set_cons_zero] at hfin
    replace hfin := Lib.hid hfin
    simp only [encC]
    gi_wp2
    exact hfin.out
  case done =>
    rintro fp' xs W5 ⟨fp2, al2, last2, hA2, hn2⟩ hI
    obtain ⟨_, rfl, rfl⟩ := (hAk _ _ _ hI).uniq hA2
    have he := hI.2.2.2.end_ hok hn2
    have hb := hI.2.2.1
    rw [he, hal] at hb
    exact ⟨hI.2.1, hb⟩
  case hE =>
    rintro xs W l o o' h1 h2 h3 ⟨fp2, al2, last2, hA2, hn2⟩
    exact ⟨fp2, al2, last2, hA2.ck (CellsKept.putObj (B := 0) W _ h2 h3 (Nat.zero_le _)), hn2⟩
  case body =>
    rintro l2 m2 fp' pre ⟨yid, yls, yA, yc⟩ a' V W5 hI0 hO01 hI ⟨rfl, hnx, hown⟩
    obtain rfl : fp' = [bi] := hI.1
    dsimp only at hnx hown
    obtain ⟨y, hyd⟩ : ∃ y : Cl, y = ⟨yid, yls, yA, yc⟩ := ⟨_, rfl⟩
    obtain ⟨s1, s2, s3⟩ := hI.2.2.2.step hok (y := ⟨yid, yls, yA, yc⟩) hnx
    simp only [updC, List.setIfInBounds_toArray, List.set_cons_succ, List.set_cons_zero]
    rw [← hyd] at s3 ⊢
    clear hyd hnx
    rw [hal] at s2
    obtain ⟨ad, x, rfl, hab, hx, q0, q1⟩ := (hRk _ _ _ hI).at_ s2
    have hxy : x.id = yid ∧ x.ls = yls := by
      unfold alR at s1
      rw [List.getElem?_map, hx] at s1
      simp at s1
      exact s1
    obtain ⟨rfl, rfl⟩ := hxy
    have hxr := (hRk _ _ _ hI).ls x (List.mem_of_getElem? hx)
    have hcl : x.ls.length ≤ 4096 := (hok.cl (x.id, x.ls) (List.mem_of_getElem? s1)).1
    have hBW : B ≤ W5.heap.size := by have := hI.2.1.size; have := hW4.size; omega
    have hxr2 : Reads W5 W5.heap.size 1 x.A x.ls.length (lits x.ls) := hxr.1.more hBW
    have hlb := hI.2.2.1.lt
    have cb := hI.2.2.1.cell 0
    have c3 := (m34.only hI.2.1 (by simp; omega)).cell 0
    have hl3 : w.heap.size < W5.heap.size := by have := hI.2.1.size; have := m34.lt; omega
    simp only [List.getElem?_toArray, List.getElem?_cons_zero] at cb c3
    have hyr := Reads.of_own hown
    generalize hm5 : x.ls.length = mm at *
    have t1 : (pre.length : Int) < (n : Int) := by omega
    have t2 : 0 ≤ (pre.length : Int) := by omega
    have t3 : ¬ (n : Int) ≤ (pre.length : Int) := by omega
    have t4 : decide ((n : Int) ≤ (pre.length : Int)) = false := by simp; omega
    have t5 : ((x.id : Int) != (x.id : Int)) = false := by simp
    have t6 : decide (n ≤ pre.length) = false := by simp; omega
    have t7 : ¬ n ≤ pre.length := by omega
    have hm5' := Lib.hid hm5
    replace s3 := Lib.hid s3
    replace hI := Lib.hid hI
    replace hI0 := Lib.hid hI0
    clear hm5 hx hxr s1 hRk hAk
    gi_upto_region 8 with (fail)
    rename_i hnext
    replace hnext := Lib.hid hnext
    gi_cut [75] from 49 (fun b wx => b = .bool false ∧ Below W5.heap.size W5 wx)
    case first =>
      have hS : W5.drew.cell? ⟨bi, 0, none⟩ = some (.int .i64 (pre.length : Int)) ∧ W5.drew.cell? ⟨w.heap.size, 0, none⟩ = some (.slice (some ad) n c) ∧ W5.drew.cell? (ad.add (pre.length * 2)) = some (.int .i64 (x.id : Int)) ∧ W5.drew.cell? ⟨(ad.add (pre.length * 2)).block, (ad.add (pre.length * 2)).off + 1, none⟩ = some (.slice x.A mm x.c) := ⟨cb, c3, q0, q1⟩
      refine wpIn_region_any (by kernel_rfl) (any_lift (by kernel_rfl) (fun _ _ h => h) _ _ _ _ (wpAny_of_held (S := fun W => W.cell? ⟨bi, 0, none⟩ = some (.int .i64 (pre.length : Int)) ∧ W.cell? ⟨w.heap.size, 0, none⟩ = some (.slice (some ad) n c) ∧ W.cell? (ad.add (pre.length * 2)) = some (.int .i64 (x.id : Int)) ∧ W.cell? ⟨(ad.add (pre.length * 2)).block, (ad.add (pre.length * 2)).off + 1, none⟩ = some (.slice x.A mm x.c)) _ _ _ _ ?_))
      change wpAnyH _ _ _ _ _ _ _ _ (World.drew _)
      refine takeH 0 (v := .int .i64 (pre.length : Int)) rfl (by kernel_rfl) (by kernel_rfl) (by kernel_rfl) (fun _ _ _ h => h) (by rfl) hS ?_ ?_
      · (intro wz hSw; obtain ⟨z1, z2, z3, z4⟩ := hSw; go_simp)
      try simp only [Act.put, List.setIfInBounds_toArray, List.set_cons_zero, List.set_cons_succ]
      refine takeH 1 (v := ?_) rfl (by kernel_rfl) (by kernel_rfl) (by kernel_rfl) (fun _ _ _ h => h) (by rfl) hS ?_ ?_
      rotate_left
      · (intro wz hSw; obtain ⟨z1, z2, z3, z4⟩ := hSw; go_simp; try with_reducible rfl)
      try simp only [Act.put, List.setIfInBounds_toArray, List.set_cons_zero, List.set_cons_succ]
      refine takeH 2 (v := .slice (some ad) n c) rfl (by kernel_rfl) (by kernel_rfl) (by kernel_rfl) (fun _ _ _ h => h) (by rfl) hS ?_ ?_
      · (intro wz hSw; obtain ⟨z1, z2, z3, z4⟩ := hSw; go_simp)
      try simp only [Act.put, List.setIfInBounds_toArray, List.set_cons_zero, List.set_cons_succ]
      refine takeH 3 (v := .int .i64 (n : Int)) rfl (by kernel_rfl) (by kernel_rfl) (by kernel_rfl) (fun _ _ _ h => h) (by rfl) hS ?_ ?_
      · (intro wz hSw; obtain ⟨z1, z2, z3, z4⟩ := hSw; go_simp)
      try simp only [Act.put, List.setIfInBounds_toArray, List.set_cons_zero, List.set_cons_succ]
      refine takeH 4 (v := .bool false) rfl (by kernel_rfl) (by kernel_rfl) (by kernel_rfl) (fun _ _ _ h => h) (by rfl) hS ?_ ?_
      · (intro wz hSw; obtain ⟨z1, z2, z3, z4⟩ := hSw; go_simp)
      try simp only [Act.put, List.setIfInBounds_toArray, List.set_cons_zero, List.set_cons_succ]
      refine takeH 5 (v := .bool false) rfl (by kernel_rfl) (by kernel_rfl) (by kernel_rfl) (fun _ _ _ h => h) (by rfl) hS ?_ ?_
      · (intro wz hSw; obtain ⟨z1, z2, z3, z4⟩ := hSw; go_simp)
      try simp only [Act.put, List.setIfInBounds_toArray, List.set_cons_zero, List.set_cons_succ]
      refine takeH 6 (v := .int .i64 (x.id : Int)) rfl (by kernel_rfl) (by kernel_rfl) (by kernel_rfl) (fun _ _ _ h => h) (by rfl) hS ?_ ?_
      · (intro wz hSw; obtain ⟨z1, z2, z3, z4⟩ := hSw; go_simp)
      try simp only [Act.put, List.setIfInBounds_toArray, List.set_cons_zero, List.set_cons_succ]
      refine takeH 7 (v := ?_) rfl (by kernel_rfl) (by kernel_rfl) (by kernel_rfl) (fun _ _ _ h => h) (by rfl) hS ?_ ?_
      rotate_left
      · (intro wz hSw; obtain ⟨z1, z2, z3, z4⟩ := hSw; go_simp; try with_reducible rfl)
      try simp only [Act.put, List.setIfInBounds_toArray, List.set_cons_zero, List.set_cons_succ]
      refine takeH 8 (v := .slice (some ad) n c) rfl (by kernel_rfl) (by kernel_rfl) (by kernel_rfl) (fun _ _ _ h => h) (by rfl) hS ?_ ?_
      · (intro wz hSw; obtain ⟨z1, z2, z3, z4⟩ := hSw; go_simp)
      try simp only [Act.put, List.setIfInBounds_toArray, List.set_cons_zero, List.set_cons_succ]
      refine takeH 9 (v := .int .i64 (pre.length : Int)) rfl (by kernel_rfl) (by kernel_rfl) (by kernel_rfl) (fun _ _ _ h => h) (by rfl) hS ?_ ?_
      · (intro wz hSw; obtain ⟨z1, z2, z3, z4⟩ := hSw; go_simp)
      try simp only [Act.put, List.setIfInBounds_toArray, List.set_cons_zero, List.set_cons_succ]
      refine takeH 10 (v := ?_) rfl (by kernel_rfl) (by kernel_rfl) (by kernel_rfl) (fun _ _ _ h => h) (by rfl) hS ?_ ?_
      rotate_left
      · (intro wz hSw; obtain ⟨z1, z2, z3, z4⟩ := hSw; go_simp; try with_reducible rfl)
      try simp only [Act.put, List.setIfInBounds_toArray, List.set_cons_zero, List.set_cons_succ]
      refine takeH 11 (v := ?_) rfl (by kernel_rfl) (by kernel_rfl) (by kernel_rfl) (fun _ _ _ h => h) (by rfl) hS ?_ ?_
      rotate_left
      · (intro wz hSw; obtain ⟨z1, z2, z3, z4⟩ := hSw; go_simp; try with_reducible rfl)
      try simp only [Act.put, List.setIfInBounds_toArray, List.set_cons_zero, List.set_cons_succ]
      refine takeH 12 (v := .int .i64 (x.id : Int)) rfl (by kernel_rfl) (by kernel_rfl) (by kernel_rfl) (fun _ _ _ h => h) (by rfl) hS ?_ ?_
      · (intro wz hSw; obtain ⟨z1, z2, z3, z4⟩ := hSw; go_simp)
      try simp only [Act.put, List.setIfInBounds_toArray, List.set_cons_zero, List.set_cons_succ]
      refine takeH 13 (v := .bool false) rfl (by kernel_rfl) (by kernel_rfl) (by kernel_rfl) (fun _ _ _ h => h) (by rfl) hS ?_ ?_
      · (intro wz hSw; obtain ⟨z1, z2, z3, z4⟩ := hSw; go_simp)
      try simp only [Act.put, List.setIfInBounds_toArray, List.set_cons_zero, List.set_cons_succ]
      refine takeH 14 (v := .bool false) rfl (by kernel_rfl) (by kernel_rfl) (by kernel_rfl) (fun _ _ _ h => h) (by rfl) hS ?_ ?_
      · (intro wz hSw; obtain ⟨z1, z2, z3, z4⟩ := hSw; go_simp)
      try simp only [Act.put, List.setIfInBounds_toArray, List.set_cons_zero, List.set_cons_succ]
      refine takeH 15 (v := .bool false) rfl (by kernel_rfl) (by kernel_rfl) (by kernel_rfl) (fun _ _ _ h => h) (by rfl) hS ?_ ?_
      · (intro wz hSw; obtain ⟨z1, z2, z3, z4⟩ := hSw; go_simp)
      try simp only [Act.put, List.setIfInBounds_toArray, List.set_cons_zero, List.set_cons_succ]
      refine takeH 16 (v := .slice yA mm yc) rfl (by kernel_rfl) (by kernel_rfl) (by kernel_rfl) (fun _ _ _ h => h) (by rfl) hS ?_ ?_
      · (intro wz hSw; obtain ⟨z1, z2, z3, z4⟩ := hSw; go_simp)
      try simp only [Act.put, List.setIfInBounds_toArray, List.set_cons_zero, List.set_cons_succ]
      refine takeH 18 (v := ?_) rfl (by kernel_rfl) (by kernel_rfl) (by kernel_rfl) (fun _ _ _ h => h) (by rfl) hS ?_ ?_
      rotate_left
      · (intro wz hSw; obtain ⟨z1, z2, z3, z4⟩ := hSw; go_simp; try with_reducible rfl)
      try simp only [Act.put, List.setIfInBounds_toArray, List.set_cons_zero, List.set_cons_succ]
      refine takeH 19 (v := .slice (some ad) n c) rfl (by kernel_rfl) (by kernel_rfl) (by kernel_rfl) (fun _ _ _ h => h) (by rfl) hS ?_ ?_
      · (intro wz hSw; obtain ⟨z1, z2, z3, z4⟩ := hSw; go_simp)
      try simp only [Act.put, List.setIfInBounds_toArray, List.set_cons_zero, List.set_cons_succ]
      refine takeH 20 (v := .int .i64 (pre.length : Int)) rfl (by kernel_rfl) (by kernel_rfl) (by kernel_rfl) (fun _ _ _ h => h) (by rfl) hS ?_ ?_
      · (intro wz hSw; obtain ⟨z1, z2, z3, z4⟩ := hSw; go_simp)
      try simp only [Act.put, List.setIfInBounds_toArray, List.set_cons_zero, List.set_cons_succ]
      refine takeH 21 (v := ?_) rfl (by kernel_rfl) (by kernel_rfl) (by kernel_rfl) (fun _ _ _ h => h) (by rfl) hS ?_ ?_
      rotate_left
      · (intro wz hSw; obtain ⟨z1, z2, z3, z4⟩ := hSw; go_simp; try with_reducible rfl)
      try simp only [Act.put, List.setIfInBounds_toArray, List.set_cons_zero, List.set_cons_succ]
      refine takeH 22 (v := ?_) rfl (by kernel_rfl) (by kernel_rfl) (by kernel_rfl) (fun _ _ _ h => h) (by rfl) hS ?_ ?_
      rotate_left
      · (intro wz hSw; obtain ⟨z1, z2, z3, z4⟩ := hSw; go_simp; try with_reducible rfl)
      try simp only [Act.put, List.setIfInBounds_toArray, List.set_cons_zero, List.set_cons_succ]
      refine takeH 23 (v := .slice x.A mm x.c) rfl (by kernel_rfl) (by kernel_rfl) (by kernel_rfl) (fun _ _ _ h => h) (by rfl) hS ?_ ?_
      · (intro wz hSw; obtain ⟨z1, z2, z3, z4⟩ := hSw; go_simp)
      try simp only [Act.put, List.setIfInBounds_toArray, List.set_cons_zero, List.set_cons_succ]
      refine callH 17 rfl (by kernel_rfl) (fun K hK => ?_)
      go_simp
      go_wp2_with (go_at_call 32; refine (ints_ok yA mm yc W5.heap.size x.ls (w := W5.drew) hyr.drew (Nat.le_refl _) (by omega)).mono ?_; rintro e W6 ⟨A8, c8, rfl, hown8, hB8⟩)
      have hB86 : Below W5.heap.size W5 W6 := (below_drewN_ (Below.refl _ W5) 1).trans hB8
      have cb6 := (hI.out.2.2.1.below hB86 hlb).cell 0
      have c36 := ((m34.only hI.out.2.1 (by simp; omega)).below hB86 hl3).cell 0
      have q06 := (hB86.cell (p := ad.add (pre.length * 2)) (by rw [block_of_add]; exact hab)).trans q0
      have q16 := (hB86.cell (p := ⟨(ad.add (pre.length * 2)).block, (ad.add (pre.length * 2)).off + 1, none⟩) (by show (ad.add (pre.length * 2)).block < _; rw [block_of_add]; exact hab)).trans q1
      simp only [List.getElem?_toArray, List.getElem?_cons_zero] at cb6 c36
      refine hK.out _ _ ⟨cb6, c36, q06, q16⟩ (fun hS6 => ?_)
      clear hK K
      refine callH 24 rfl (by kernel_rfl) (fun K hK => ?_)
      go_simp
      go_wp2_with (go_at_call 28; refine (equal_ints A8 x.A mm c8 x.c x.ls _ _ (Reads.of_own hown8) ((hxr2.below hB86).more hB86.size) (by omega)).mono ?_; rintro e W7 ⟨rfl, hB87⟩)
      have hB77 := hB86.trans (hB87.mono hB86.size)
      have hS7 : W7.cell? ⟨bi, 0, none⟩ = some (.int .i64 (pre.length : Int)) ∧ W7.cell? ⟨w.heap.size, 0, none⟩ = some (.slice (some ad) n c) ∧ W7.cell? (ad.add (pre.length * 2)) = some (.int .i64 (x.id : Int)) ∧ W7.cell? ⟨(ad.add (pre.length * 2)).block, (ad.add (pre.length * 2)).off + 1, none⟩ = some (.slice x.A mm x.c) := ⟨(hB87.cell (p := ⟨bi, 0, none⟩) (by have := hB86.size; show bi < _; omega)).trans cb6, (hB87.cell (p := ⟨w.heap.size, 0, none⟩) (by have := hB86.size; show w.heap.size < _; omega)).trans c36, (hB87.cell (p := ad.add (pre.length * 2)) (by have := hB86.size; rw [block_of_add]; omega)).trans q06, (hB87.cell (p := ⟨(ad.add (pre.length * 2)).block, (ad.add (pre.length * 2)).off + 1, none⟩) (by have := hB86.size; show (ad.add (pre.length * 2)).block < _; rw [block_of_add]; omega)).trans q16⟩
      refine hK.out _ _ hS7 (fun _ => ?_)
      clear hK K hS hS6
      have hS := hS7
      refine takeH 25 (v := .bool false) rfl (by kernel_rfl) (by kernel_rfl) (by kernel_rfl) (fun _ _ _ h => h) (by rfl) hS ?_ ?_
      · (intro wz hSw; obtain ⟨z1, z2, z3, z4⟩ := hSw; go_simp)
      try simp only [Act.put, List.setIfInBounds_toArray, List.set_cons_zero, List.set_cons_succ]
      refine takeH 26 (v := .bool false) rfl (by kernel_rfl) (by kernel_rfl) (by kernel_rfl) (fun _ _ _ h => h) (by rfl) hS ?_ ?_
      · (intro wz hSw; obtain ⟨z1, z2, z3, z4⟩ := hSw; go_simp)
      try simp only [Act.put, List.setIfInBounds_toArray, List.set_cons_zero, List.set_cons_succ]
      refine wpAnyH_done (by kernel_rfl) ?_ _
      gi_wp2
      gi_meet
      exact ⟨rfl, hB77⟩
    case rest =>
      obtain ⟨rfl, hBc⟩ := hcut
      refine hnext.out _ _ ?_
      clear hnext
      have hOc : Only [] V wc := hO01.trans (only_of_below [] hBc)
      have hrow : ∃ xs, wc.ownsRow V.heap.size 30 1 (.slice yA mm yc) mm xs := ⟨_, row_new hown hBc⟩
      have hbV := hI0.out.2.2.1
      have hlV := hbV.lt
      clear hBc hown cb c3 q0 q1 hxr2 hyr hO01
      gi_wp2
      gi_loopw [78] (fun i wr => ∃ j : Nat, j ≤ mm ∧ i = .int .i64 j ∧ Only [] V wr ∧ ∃ xs, wr.ownsRow V.heap.size 30 1 (.slice yA mm yc) mm xs) (fun i _ => mm - (intOf i).toNat)
      case atStart => exact ⟨0, by omega, rfl, hOc, hrow⟩
      case round =>
        clear hOc hrow
        obtain ⟨j, hj, rfl, hOr, xs, hrow⟩ := hrel
        by_cases hlt : j < mm
        · obtain ⟨g, cap, hv, hgV, hgl⟩ := hrow.form (by omega)
          have hyA : yA = some ⟨g, 0, none⟩ := by injection hv
          subst hyA
          have hgb := hrow.lt g rfl
          have hxs : xs.length = mm := by have := hrow.1; omega
          have b0 := hrow.cellAt (g := g) j (by omega)
          rw [List.getElem?_eq_getElem (by omega)] at b0
          have z0 := hrow.frozenAt (g := g) j
          have hst := hrow.stored (g := g) j (.int .i64 0)
          have hOr2 : Only [] V (wr.setCell ⟨g, j, none⟩ (.int .i64 0)) := hOr.setCell (.inr hgb.1) _
          have u1 : (j : Int) < (mm : Int) := by omega
          have u2 : 0 ≤ (j : Int) := by omega
          replace hst := Lib.hid hst
          replace hOr2 := Lib.hid hOr2
          clear hrow hOr hv
          gi_wp2
          go_roundw
          case rel => exact ⟨j + 1, by omega, by go_num, hOr2.out, _, hst.out.1⟩
          case measure => simp [intOf]; omega
        · obtain rfl : j = mm := by omega
          have hbr := hbV.only hOr (by simp)
          have cb := hbr.cell 0
          have zb := hbr.frozen 0
          simp only [List.getElem?_toArray, List.getElem?_cons_zero] at cb
          have hOf : Only [bi] V (wr.setCell ⟨bi, 0, none⟩ (.int .i64 ((pre.length : Int) + 1))) := (hOr.more (by simp)).setCell (.inl (by simp)) _
          have hbf := hbr.set_ 0 (.int .i64 ((pre.length : Int) + 1))
          replace hOf := Lib.hid hOf
          replace hbf := Lib.hid hbf
          clear hrow hOr
          gi_wp2
          refine ⟨hOf.out, [bi], ⟨rfl, hI0.out.2.1.trans hOf.out, ?_, s3.out⟩, fun k hk => .inl hk⟩
          have := hbf.out
          simpa using this
  case fin =>
    intro Dd W5 hDd ⟨hO5, hb5⟩ hDm
    refine hcont.out _ _ ?_
    clear hcont
    dsimp only
    have cb := hb5.cell 0
    have c3 := (m34.only hO5 (by simp; omega)).cell 0
    have k4 := m44.only hO5 (by simp; omega)
    have hl3 : w.heap.size < W5.heap.size := by have := hO5.size; have := m34.lt; omega
    have hB5 := hW4.trans (hO5.below (show w.heap.size ≤ W4.heap.size from hW4.size) (by simp; omega))
    simp only [List.getElem?_toArray, List.getElem?_cons_zero] at cb c3
    have d4 := k4.cell 0
    have z4 := k4.frozen 0
    simp only [List.getElem?_toArray, List.getElem?_cons_zero] at d4
    have hlb := hb5.lt
    clear hAk hRk
    go_wp2_with fail
    have hWz := k4.set_ 0 (.bool true)
    simp only [List.setIfInBounds_toArray, List.set_cons_zero] at hWz
    have hDl := (Array.getElem?_eq_some_iff.1 hDm).1
    have hne : Dd ≠ w.heap.size + 1 := by omega
    have hDz2 : (W5.setCell ⟨w.heap.size + 1, 0, none⟩ (.bool true)).heap[Dd]? = some (.deferred (some [])) := (Below.heap_setCell _ _ _ _ hne).trans hDm
    have hBz := hB5.setCell (p := ⟨w.heap.size + 1, 0, none⟩) (Nat.le_succ _) (.bool true)
    have hk := CellsKept.putObj (B := w.heap.size) _ (.deferred none) hDz2 rfl (by omega)
    refine leaves_one hDz2 ⟨.bool true, ?_, rfl, below_ck hBz (Nat.le_refl _) hk (Nat.le_refl _)⟩
    have hWk := (hWz.ck hk).cell 0
    simp only [List.getElem?_toArray, List.getElem?_cons_zero] at hWk
    simp [results, Try.results34, go_sem, hWk]
theorem same_ok (hA : Arena w base d fp (alR es) last) (hR : RefR w B A n c es) (hB : B ≤ w.heap.size) :
    Calls Try.prog 34 #[.pointer (some ⟨d, 0, none⟩), .agg #[.slice A n c, .int .i64 (last : Int)]] w fun e w' => e = .returned (.bool true) ∧ Below w.heap.size w w' := callsIn_wide.1 (same_in 3 (by omega) hA hR hB)
end
end Go.Proofs.Ytlcfgpkokaiogaa
