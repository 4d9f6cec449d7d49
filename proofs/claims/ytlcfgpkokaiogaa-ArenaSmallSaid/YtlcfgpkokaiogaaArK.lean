/- Arenas: All. -/
import Derived.Test.YtlcfgpkokaiogaaArJ
namespace Go.Proofs.Ytlcfgpkokaiogaa
open Go Go.RowKit Go.Shelf
set_option linter.unusedVariables false
set_option linter.unusedSimpArgs false
set_option maxHeartbeats 4000000
attribute [local go_sem] Oper.semAt_some
theorem own_uniq {W : World} {base base' e n : Nat} {size : Nat} {v : Value} {xs xs' : List Value} (h : W.ownsRow base e size v n xs) (h' : W.ownsRow base' e size v n xs') : xs = xs' := by
  rcases h.2 with ⟨rfl, h0⟩ | ⟨g, cap, cur, rfl, _, hg, _, _, _, ht⟩
  · subst h0
    have h1 := h.1
    have h2 := h'.1
    rw [Nat.zero_mul] at h1 h2
    rw [List.eq_nil_of_length_eq_zero h1, List.eq_nil_of_length_eq_zero h2]
  · rcases h'.2 with ⟨hv, _⟩ | ⟨g', cap', cur', hv, _, hg', _, _, _, ht'⟩
    · cases hv
    · injection hv with e1 e2 e3
      injection e1 with e1
      injection e1 with e1
      subst e1
      rw [hg] at hg'
      injection hg' with hg'
      injection hg' with hg'
      subst hg'
      rw [← ht, ← ht']
theorem lits_inj : ∀ {a b : List Int}, lits a = lits b → a = b
  | [], [], _ => rfl
  | [], _ :: _, h => by cases h
  | _ :: _, [], h => by cases h
  | x :: a, y :: b, h => by
    simp only [lits, List.map_cons, List.cons.injEq] at h
    obtain ⟨h1, h2⟩ := h
    cases h1
    rw [lits_inj h2]
theorem ent_inj : ∀ {es fs : List En} (b : Nat), encN b es = encN b fs → flat es = flat fs → es = fs
  | [], [], _, _, _ => rfl
  | [], _ :: _, _, h, _ => by simp [encN] at h
  | _ :: _, [], _, h, _ => by simp [encN] at h
  | e :: es, f :: fs, b, h, hf => by
    simp only [encN, List.cons.injEq] at h
    obtain ⟨_, h2, h3, h4, h5⟩ := h
    have hl : e.ls.length = f.ls.length := by
      injection h2 with _ h2
      omega
    have hid : e.id = f.id := by
      injection h3 with _ h3
      omega
    have hg : e.gone = f.gone := by injection h4
    simp only [flat, List.flatMap_cons] at hf
    have hls := List.append_inj hf hl
    rw [hl] at h5
    have := ent_inj _ h5 hls.2
    subst this
    cases e
    cases f
    simp_all
theorem Arena.uniq {W : World} {base base' d : Nat} {fp fp' : List Nat} {al al' : List (Nat × List Int)} {last last' : Nat} (h : Arena W base d fp al last) (h' : Arena W base' d fp' al' last') : fp = fp' ∧ al = al' ∧ last = last' := by
  obtain ⟨vs, va, es, h, rfl, rfl⟩ := h
  obtain ⟨vs', va', es', h', rfl, rfl⟩ := h'
  have e := h.hd
  unfold Blk at e
  rw [h'.hd] at e
  injection e with e
  injection e with e
  injection e with e
  simp only [List.cons.injEq] at e
  obtain ⟨rfl, rfl, _, _, h5, _⟩ := e
  have hl : last = last' := by
    injection h5 with _ h5
    omega
  subst hl
  obtain ⟨A, c, hv⟩ := own_form h.hs
  obtain ⟨A', c', hv'⟩ := own_form h'.hs
  rw [hv] at hv'
  injection hv' with _ hn1 _
  obtain ⟨B, c2, hw⟩ := own_form h.ha
  obtain ⟨B', c2', hw'⟩ := own_form h'.ha
  rw [hw] at hw'
  injection hw' with _ hn2 _
  have h1 := h'.hs
  rw [← hn1] at h1
  have h2 := h'.ha
  rw [← hn2] at h2
  have := ent_inj 0 (own_uniq h.ha h2) (lits_inj (own_uniq h.hs h1))
  subst this
  exact ⟨rfl, rfl, rfl⟩
/-- A clause that comes. -/
structure Cl where
  id : Nat
  ls : List Int
  A : Option Addr
  c : Nat
def encC (y : Cl) : Array Value := #[.int .i64 (y.id : Int), .slice y.A y.ls.length y.c]
def lastId (pre : List Cl) : Nat := match pre.getLast? with | none => 0 | some y => y.id
theorem lastId_snoc (pre : List Cl) (y : Cl) : lastId (pre ++ [y]) = y.id := by simp [lastId]
theorem all_ok (d : Nat) (w : World) : Calls Try.prog 20 #[.pointer (some ⟨d, 0, none⟩)] w fun e w' => e = .returned (.func (.func 42) #[] #[.pointer (some ⟨w.heap.size, 0, none⟩)]) ∧ w.alloc (.cells #[.pointer (some ⟨d, 0, none⟩)] 31) = w' := by
  go_enter Try.func20, Try.ntmps20
  go_wp2
  go_ret
  exact ⟨rfl, rfl⟩
theorem nxt_at {es : List En} (h : Sorted es) {id : Int} {k : Nat} {e : En} (hk : es[k]? = some e) (hg : e.gone = false) (hi : id < e.id) (hb : ∀ (j : Nat) (x : En), es[j]? = some x → j < k → (x.id : Int) ≤ id ∨ x.gone = true) : nxt (als es) id = some (e.id, e.ls) := by
  rw [nxt_some (als_sorted h)]
  refine ⟨mem_als.2 ⟨e, List.mem_of_getElem? hk, hg, rfl⟩, hi, fun c hc hid => ?_⟩
  obtain ⟨x, hx, hxg, rfl⟩ := mem_als.1 hc
  obtain ⟨j, hj⟩ := List.mem_iff_getElem?.1 hx
  by_cases hjk : j < k
  · rcases hb j x hj hjk with h1 | h1
    · dsimp only at hid; omega
    · rw [h1] at hxg; cases hxg
  · exact sorted_le h hk hj (by omega)
theorem nxt_end {es : List En} {id : Int} (hb : ∀ (j : Nat) (x : En), es[j]? = some x → (x.id : Int) ≤ id ∨ x.gone = true) : nxt (als es) id = none := by
  rw [nxt_none]
  intro c hc
  obtain ⟨x, hx, hxg, rfl⟩ := mem_als.1 hc
  obtain ⟨j, hj⟩ := List.mem_iff_getElem?.1 hx
  rcases hb j x hj with h1 | h1
  · exact h1
  · rw [h1] at hxg; cases hxg
theorem grown_below {W W' : World} (h : Below W.heap.size W W') : W.grownBy W' none := ⟨h.os, h.tape, h.output, h.size, fun k hk _ => h.block k hk⟩
theorem own_belowJ {β : Type} {B : Nat} {I : β → World → Prop} (h : OwnFrom B I) {s : β} {W W' : World} (hs : I s W) (hb : Below W.heap.size W W') : I s W' := h s W W' none hs (grown_below hb) (by simp)
/-- What the iterator reads. -/
def RdA (base d Ba : Nat) (W : World) : Prop := Blk W Ba 31 #[.pointer (some ⟨d, 0, none⟩)] ∧ ∃ fp al last, Arena W base d fp al last
def XA (base d : Nat) (pre : List Cl) (W0 W1 : World) (y : Cl) : Prop := ∃ fp al last, Arena W0 base d fp al last ∧ nxt al (lastId pre) = some (y.id, y.ls) ∧ W1.ownsRow W0.heap.size 30 1 (.slice y.A y.ls.length y.c) y.ls.length (lits y.ls)
def EA (base d : Nat) (xs : List Cl) (W : World) : Prop := ∃ fp al last, Arena W base d fp al last ∧ nxt al (lastId xs) = none
set_option maxRecDepth 100000 in
theorem seq42 (base d Ba : Nat) :
    Seq2 Try.prog 42 #[.pointer (some ⟨Ba, 0, none⟩)] encC (fun _ W => RdA base d Ba W) (XA base d) (EA base d) := by
  intro m l J Jx W fp hJ hJx hRd hfp hY h0
  have key : CallsIn Fence.wide m Try.prog 42 (#[.func (.yield l) #[] #[]] ++ #[.pointer (some ⟨Ba, 0, none⟩)]) W fun e W' => (∃ v, e = .returned v) ∧ ((∃ fp xs, EA base d xs W' ∧ J fp xs W') ∨ (∃ pre, Jx pre W')) := by
    refine callsIn_of_wp Try.func42 rfl trivial ?_ rfl
    simp only [Try.ntmps42, List.size_toArray, List.length_cons, List.length_nil, Nat.reduceAdd, Nat.reduceSub, Array.replicate_succ, Array.replicate_zero, List.push_toArray, List.append_toArray, List.nil_append, List.cons_append]
    gi_wp2
    gi_loopw [3] (fun i wr => ∃ (fp : List Nat) (pre : List Cl), i = .int .i64 (lastId pre : Int) ∧ lastId pre ≤ 1073741824 ∧ J fp pre wr) (fun i _ => (1073741825 - intOf i).toNat)
    case atStart => exact ⟨fp, [], rfl, by simp [lastId], h0⟩
    case round =>
      clear h0 hfp
      obtain ⟨fp, pre, rfl, hli, hJs⟩ := hrel
      obtain ⟨hba, fpa, al, last, vs, va, es, hA, rfl, rfl⟩ := hRd _ _ _ hJs
      have b0 := hba.cell 0
      simp only [List.getElem?_toArray, List.getElem?_cons_zero] at b0
      obtain ⟨id, hid⟩ : ∃ id, id = lastId pre := ⟨_, rfl⟩
      rw [← hid] at hli ⊢
      have hat := at_ok hA ((id : Int) + 1) (by omega)
      have hi := is_ok hA
      obtain ⟨A1, k1, rfl⟩ := own_form hA.ha
      have hal := atI_le es ((id : Int) + 1)
      obtain ⟨i0, hi0⟩ : ∃ i0, i0 = atI es ((id : Int) + 1) := ⟨_, rfl⟩
      obtain ⟨n, hn⟩ : ∃ n, n = es.length := ⟨_, rfl⟩
      rw [← hi0] at hat hal
      have hfew := hA.few
      rw [← hn] at hal hfew
      have hid' := Lib.hid hid
      have hi0' := Lib.hid hi0
      have hn' := Lib.hid hn
      replace hat := Lib.hid hat
      replace hi := Lib.hid hi
      replace hA := Lib.hid hA
      clear hid hi0 hn
      have hbl := hba.lt
      gi_wp2_with (first
        | (refine ⟨trivial, no_depth, ?_⟩; gi_at_call 35; refine (callsIn_wide.2 hi.out).mono ?_; rintro e w' ⟨rfl, rfl⟩)
        | (refine ⟨trivial, no_depth, ?_⟩; gi_at_call 43; refine (callsIn_wide.2 hat.out).mono ?_; rintro e w1 ⟨rfl, hB1⟩; have hba1 := hba.below hB1 hbl; have b1 := hba1.cell 0; simp only [List.getElem?_toArray, List.getElem?_cons_zero] at b1))
      have hJ1 := own_belowJ (hJ fp) hJs hB1
      have hA1 := hA.out.new hB1
      have c1 := hA1.c1
      rw [← hn'.out] at c1
      replace hA1 := Lib.hid hA1
      replace hJ1 := Lib.hid hJ1
      clear hJs hba hba1 b0
      gi_loopw [4] (fun i wx => ∃ k : Nat, i = .int .i64 k ∧ i0 ≤ k ∧ k ≤ n ∧ (∀ (j : Nat) (x : En), es[j]? = some x → i0 ≤ j → j < k → x.gone = true) ∧ wx = w1) (fun i _ => n - (intOf i).toNat)
      case atStart => exact ⟨i0, rfl, Nat.le_refl _, hal, fun j x _ h1 h2 => by omega, rfl⟩
      case round =>
        obtain ⟨k, rfl, hik, hkn, hgs, rfl⟩ := hrel
        have k0 : 0 ≤ (k : Int) := by omega
        by_cases hlt : k < n
        · obtain ⟨e, he⟩ : ∃ e, es[k]? = some e := ⟨_, List.getElem?_eq_getElem (by have := hn'.out; omega)⟩
          obtain ⟨g, rfl, _, q0, q1, q2, q3⟩ := ent_at hA1.out.ha he
          have k1 : (k : Int) < (n : Int) := by omega
          have he' := Lib.hid he
          replace hgs := Lib.hid hgs
          clear he
          cases hg : e.gone with
          | true =>
            rw [hg] at q3
            gi_wp2
            go_roundw
            case rel =>
              refine ⟨k + 1, by go_num, by omega, by omega, fun j x hj h1 h2 => ?_, by trivial⟩
              by_cases hjk : j = k
              · subst hjk
                have := he'.out.symm.trans hj
                cases this
                exact hg
              · exact hgs.out j x hj h1 (by omega)
            case measure => simp [intOf]; omega
          | false =>
            rw [hg] at q3
            have hin : id < e.id := by
              have h1 := (atI_lt hA1.out.ok.so (id := (id : Int) + 1) he'.out)
              rw [← hi0'.out] at h1
              have h2 : ¬ (e.id : Int) < (id : Int) + 1 := fun hc => by have := h1.2 hc; omega
              omega
            have hnx : nxt (als es) (id : Int) = some (e.id, e.ls) := nxt_at hA1.out.ok.so he'.out hg (by omega) (fun j x hj hjk => by
              by_cases hji : j < i0
              · rw [hi0'.out] at hji
                have := (atI_lt hA1.out.ok.so hj).1 hji
                exact .inl (by omega)
              · exact .inr (hgs.out j x hj (by omega) hjk))
            have hel := hA1.out.ok.id1 e (List.mem_of_getElem? he'.out)
            have hla := hA1.out.ok.la
            have hget := get_yes hA1.out he'.out hg
            replace hnx := Lib.hid hnx
            replace hget := Lib.hid hget
            gi_wp2_with (refine ⟨trivial, no_depth, ?_⟩; gi_at_call 17; refine (callsIn_wide.2 hget.out).mono ?_; rintro r w2 ⟨A9, c9, rfl, hown, hB2⟩; obtain ⟨fn2, tmps, assign, body, hy, hR⟩ := hY (m - 1) fp pre ⟨e.id, e.ls, A9, c9⟩ wr w2 hJ1.out (own_belowJ (hJ fp) hJ1.out hB2) (only_of_below [] hB2) ⟨_, _, _, ⟨_, _, _, hA1.out, rfl, rfl⟩, by rw [← hid'.out]; exact hnx.out, hown⟩; dsimp only [encC] at hy hR)
            refine ⟨no_depth, ?_⟩
            refine hR.mono ?_
            rintro r W3 (⟨rfl, ⟨fp', hJ3, hf3⟩, _⟩ | ⟨rfl, hJx3, _⟩)
            · gi_wp2
              go_roundw
              case rel => exact ⟨fp', _, by rw [lastId_snoc], by rw [lastId_snoc]; show e.id ≤ _; omega, hJ3⟩
              case measure => simp [intOf]; omega
            · gi_wp2
              refine bodyPost_ret (results_none rfl _ _ _) rfl ?_
              exact ⟨⟨_, rfl⟩, .inr ⟨_, hJx3⟩⟩
        · obtain rfl : k = n := by omega
          have hnx : nxt (als es) (id : Int) = none := nxt_end (fun j x hj => by
            by_cases hji : j < i0
            · rw [hi0'.out] at hji
              have := (atI_lt hA1.out.ok.so hj).1 hji
              exact .inl (by omega)
            · exact .inr (hgs j x hj (by omega) (by have := (List.getElem?_eq_some_iff.1 hj).1; have := hn'.out; omega)))
          have k1 : ¬ (k : Int) < (k : Int) := by omega
          replace hgs := Lib.hid hgs
          replace hnx := Lib.hid hnx
          gi_wp2
          refine bodyPost_ret (results_none rfl _ _ _) rfl ?_
          exact ⟨⟨_, rfl⟩, .inl ⟨fp, pre, ⟨_, _, _, ⟨_, _, _, hA1.out, rfl, rfl⟩, by rw [← hid'.out]; exact hnx.out⟩, hJ1.out⟩⟩
  exact key
end Go.Proofs.Ytlcfgpkokaiogaa
