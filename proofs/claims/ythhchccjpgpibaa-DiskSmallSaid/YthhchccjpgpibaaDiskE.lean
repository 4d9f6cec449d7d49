/- Disks: the iterators over the cache, from the last entry on. -/
import Derived.Test.YthhchccjpgpibaaDiskD
import Derived.Test.YthhchccjpgpibaaRange
namespace Go.Proofs.Ythhchccjpgpibaa
open Go Go.RowKit Go.Shelf
set_option linter.unusedVariables false
set_option linter.unusedSimpArgs false
set_option maxHeartbeats 4000000
attribute [local go_sem] Oper.semAt_some
theorem back48 (n : Nat) (s : Value) (A : Option Addr) (k c : Nat) (hs : s = .slice A k c) (w : World) : CallsIn Fence.wide n Try.prog 48 #[s] w fun e w' => e = .returned (.func (.func 55) #[] #[.pointer (some ⟨w.heap.size, 0, none⟩)]) ∧ w.alloc (.cells #[s] 33) = w' := by
  subst hs
  refine callsIn_wide.2 ?_
  go_enter Try.func48, Try.ntmps48
  go_wp2
  go_ret
  exact ⟨rfl, rfl⟩
theorem own_ent {w : World} {base n c : Nat} {A : Option Addr} {es : List Ent} (h : w.ownsRow base 38 3 (.slice A n c) n (encs es)) {k : Nat} {x : Ent} (hx : es[k]? = some x) :
    ∃ g, A = some ⟨g, 0, none⟩ ∧ k < n ∧ w.cell? ⟨g, k * 3, none⟩ = some (.int .i64 x.1) ∧ w.cell? ⟨g, k * 3 + 1, none⟩ = some (.int .u32 x.2.1) ∧ w.cell? ⟨g, k * 3 + 2, none⟩ = some (.int .i64 x.2.2) := by
  have hl : es.length = n := by have := h.1; rw [encs_len] at this; omega
  have hk : k < n := by rw [← hl]; exact (List.getElem?_eq_some_iff.1 hx).1
  obtain ⟨g, cap, hv, _, _⟩ := h.form (by omega)
  have hA : A = some ⟨g, 0, none⟩ := by injection hv
  subst hA
  have hc := h.cells (g := g) rfl
  have h0 := hc (k * 3 + 0) _ (by have := encs_at es k 0 x hx (by omega); simpa [encE] using this)
  have h1 := hc (k * 3 + 1) _ (by have := encs_at es k 1 x hx (by omega); simpa [encE] using this)
  have h2 := hc (k * 3 + 2) _ (by have := encs_at es k 2 x hx (by omega); simpa [encE] using this)
  rw [Addr.add_lit, Nat.zero_add] at h0 h1 h2
  exact ⟨g, rfl, hk, h0, h1, h2⟩
def aggE (x : Ent) : Value := .agg #[.int .i64 x.1, .int .u32 x.2.1, .int .i64 x.2.2]
set_option maxRecDepth 100000 in
theorem seq55 (base Bs : Nat) (A : Option Addr) (n c : Nat) (es : List Ent) (hn : es.length = n) (h4 : n ≤ 4096) :
    Seq Try.prog 55 #[.pointer (some ⟨Bs, 0, none⟩)] (fun y : Nat × Ent => #[.int .i64 y.1, aggE y.2]) (fun _ W => Blk W Bs 33 #[.slice A n c] ∧ W.ownsRow base 38 3 (.slice A n c) n (encs es))
      (fun pre _ y => y.1 + 1 + pre.length = n ∧ es[y.1]? = some y.2) (fun xs _ => xs.length = n) := by
  intro m l J Jx W fp hJ hJx hRd hfp hY h0
  have hb0 := (hRd _ _ _ h0).1.cell 0
  simp only [List.getElem?_toArray, List.getElem?_cons_zero] at hb0
  refine callsIn_of_wp Try.func55 rfl trivial ?_ rfl
  simp only [Try.ntmps55, List.size_toArray, List.length_cons, List.length_nil, Nat.reduceAdd, Nat.reduceSub, Array.replicate_succ, Array.replicate_zero, List.push_toArray, List.append_toArray, List.nil_append, List.cons_append]
  gi_wp2
  gi_loopw [3] (fun i wr => ∃ (fp : List Nat) (pre : List (Nat × Ent)), pre.length ≤ n ∧ i = .int .i64 ((n : Int) - 1 - pre.length) ∧ J fp pre wr) (fun i _ => (intOf i + 1).toNat)
  case atStart => exact ⟨fp, [], Nat.zero_le _, by simp, h0⟩
  case round =>
    clear hb0 h0
    obtain ⟨fp, pre, hl, rfl, hJs⟩ := hrel
    obtain ⟨hb, hr⟩ := hRd _ _ _ hJs
    have hb0 := hb.cell 0
    simp only [List.getElem?_toArray, List.getElem?_cons_zero] at hb0
    by_cases hlt : pre.length < n
    · obtain ⟨k, hk⟩ : ∃ k, k + 1 + pre.length = n := ⟨n - 1 - pre.length, by omega⟩
      have hx : es[k]? = some (es[k]'(by omega)) := List.getElem?_eq_getElem (by omega)
      generalize es[k]'(by omega) = x at hx
      obtain ⟨g, rfl, _, q0, q1, q2⟩ := own_ent hr hx
      obtain ⟨fn, tmps, assign, body, hy, hR⟩ := hY (m - 1) fp pre (k, x) wr hJs ⟨hk, hx⟩
      have hki : (n : Int) - 1 - pre.length = (k : Int) := by omega
      rw [hki]
      have k0 : 0 ≤ (k : Int) := by omega
      have k1 : (k : Int) < (n : Int) := by omega
      replace hki := Lib.hid hki
      replace hk := Lib.hid hk
      replace hx := Lib.hid hx
      clear hr hb
      dsimp only at hy hR
      unfold aggE at hy
      gi_wp2
      refine ⟨no_depth, ?_⟩
      refine hR.mono ?_
      rintro e W3 (⟨rfl, ⟨fp', hJ3, hf3⟩, _⟩ | ⟨rfl, hJx3, _⟩)
      · gi_wp2
        go_roundw
        case rel => exact ⟨fp', _, by have := hk.out; simp; omega, by have := hki.out; simp; omega, hJ3⟩
        case measure => simp [intOf]
      · gi_wp2
        refine bodyPost_ret (results_none rfl _ _ _) rfl ?_
        exact ⟨⟨_, rfl⟩, .inr ⟨_, hJx3⟩⟩
    · have he : pre.length = n := by omega
      have hki : (n : Int) - 1 - pre.length = -1 := by omega
      rw [hki]
      replace hki := Lib.hid hki
      replace he := Lib.hid he
      gi_wp2
      go_end0
      exact ⟨⟨_, rfl⟩, .inl ⟨fp, pre, he.out, hJs⟩⟩
theorem back37 (m d : Nat) (w : World) : CallsIn Fence.wide m Try.prog 37 #[.pointer (some ⟨d, 0, none⟩)] w fun e w' => e = .returned (.func (.func 47) #[] #[.pointer (some ⟨w.heap.size, 0, none⟩)]) ∧ w.alloc (.cells #[.pointer (some ⟨d, 0, none⟩)] 25) = w' := by
  refine callsIn_wide.2 ?_
  go_enter Try.func37, Try.ntmps37
  go_wp2
  go_ret
  exact ⟨rfl, rfl⟩
/-- What the outer iterator keeps while the inner one goes on. -/
def KeepIn (l Bs b0 : Nat) (c : Value) (J : List Nat → List Ent → World → Prop) (fp : List Nat) (pre : List (Nat × Ent)) (W : World) : Prop :=
  J fp (pre.map (·.2)) W ∧ Blk W b0 85 #[.func (.yield l) #[] #[]] ∧ Blk W Bs 33 #[c] ∧ b0 ∉ fp ∧ Bs ∉ fp
set_option maxRecDepth 100000 in
theorem seq47 (base Bd d p : Nat) (v : Value) (A : Option Addr) (n cc : Nat) (D : Dst) (hn : D.es.length = n) :
    Seq Try.prog 47 #[.pointer (some ⟨Bd, 0, none⟩)] (fun x : Ent => #[aggE x]) (fun _ W => Blk W Bd 25 #[.pointer (some ⟨d, 0, none⟩)] ∧ Dsk W base d p v (.slice A n cc) D)
      (fun pre _ x => D.es.reverse[pre.length]? = some x) (fun xs _ => xs.length = n) := by
  intro m l J Jx W fp hJ hJx hRd hfp hY h0
  obtain ⟨hb, hd⟩ := hRd _ _ _ h0
  have e0 := hb.cell 0
  have e2 := hd.c2
  have hbl := hb.lt
  have hdl := hd.hd.lt
  simp only [List.getElem?_toArray, List.getElem?_cons_zero] at e0
  refine callsIn_of_wp_marks Try.func47 rfl trivial ?_ rfl
  simp only [Try.ntmps47, List.size_toArray, List.length_cons, List.length_nil, Nat.reduceAdd, Nat.reduceSub, Array.replicate_succ, Array.replicate_zero, List.push_toArray, List.append_toArray, List.nil_append, List.cons_append]
  refine wpIn_wide.2 ?_
  go_wp2_with (go_at_call 48; refine (callsIn_wide.1 (back48 0 _ A n cc rfl _)).mono ?_; rintro e w' ⟨rfl, rfl⟩)
  have hle : W.heap.size ≤ ((W.alloc (.cells #[.func (.yield l) #[] #[]] 85)).alloc (.cells #[.slice A n cc] 33)).heap.size := by simp; omega
  have hsz : ((W.alloc (.cells #[.func (.yield l) #[] #[]] 85)).alloc (.cells #[.slice A n cc] 33)).heap.size = W.heap.size + 2 := by simp
  have hk0 : KeepIn l (W.heap.size + 1) W.heap.size (.slice A n cc) J fp [] ((W.alloc (.cells #[.func (.yield l) #[] #[]] 85)).alloc (.cells #[.slice A n cc] 33)) :=
    ⟨(hJ fp).alloc _ ((hJ fp).alloc _ h0), (Blk.new _ _ _).alloc _, by simpa using Blk.new (W.alloc (.cells #[.func (.yield l) #[] #[]] 85)) 33 #[.slice A n cc], fun hm => by have := hfp _ hm; omega, fun hm => by have := hfp _ hm; omega⟩
  generalize hW1 : (W.alloc (.cells #[.func (.yield l) #[] #[]] 85)).alloc (.cells #[.slice A n cc] 33) = W1 at *
  have hKI : ∀ fp, OwnFrom W1.heap.size (KeepIn l (W.heap.size + 1) W.heap.size (.slice A n cc) J fp) := fun fp s A' B' row hs hg hr =>
    ⟨hJ fp _ _ _ row hs.1 hg (fun r e => ⟨by have := (hr r e).1; omega, (hr r e).2⟩), hs.2.1.ck (cellsKept_of_grown hg hr), hs.2.2.1.ck (cellsKept_of_grown hg hr), hs.2.2.2⟩
  have hXi : ∀ (pre : List (Nat × Ent)) (x : Nat × Ent), x.1 + 1 + pre.length = n → D.es[x.1]? = some x.2 → D.es.reverse[(pre.map (·.2)).length]? = some x.2 := by
    intro pre x h1 h2
    rw [List.length_map, List.getElem?_reverse (by omega), hn]
    rw [show n - 1 - pre.length = x.1 from by omega]; exact h2
  have hn4 : n ≤ 4096 := by have := hd.ok.ec; omega
  refine (wpIn_wide (n := m)).1 ?_
  refine wpIn_range rfl (enters_of Try.func55 (by kernel_rfl) rfl) (seq55 base (W.heap.size + 1) A n cc D.es hn hn4) (fun _ => rfl) (fun fp => KeepIn l (W.heap.size + 1) W.heap.size (.slice A n cc) J fp) (fun c pre W => c = .ret ∧ Jx (pre.map (·.2)) W) hKI
    (fun c s A' B' row hs hg hr => ⟨hs.1, hJx (s.map (·.2)) A' B' row hs.2 hg (fun r e => ⟨by have := (hr r e).1; omega, (hr r e).2⟩)⟩) (fun fp pre W' h => ⟨h.2.2.1, (hRd _ _ _ h.1).2.hc |> fun h' => own_cast h' hn rfl⟩) fp (fun k hk => by have := hfp k hk; omega) hk0
    (Ax1 38 (fun x => (encE x.2).toArray) (fun pre x => x.1 + 1 + pre.length = n ∧ D.es[x.1]? = some x.2) (fun x N => { tmps := #[.func (.yield l) #[] #[], .pointer (some ⟨Bd, 0, none⟩), .pointer (some ⟨W.heap.size, 0, none⟩), undef, .pointer (some ⟨N, 0, none⟩), .pointer (some ⟨d, 0, none⟩), .pointer (some ⟨d, 0, none⟩), .pointer (some ⟨d, 2, none⟩), .slice A n cc, .func (.func 55) #[] #[.pointer (some ⟨W.heap.size + 1, 0, none⟩)], .int .i64 x.1, .agg #[.int .i64 x.2.1, .int .u32 x.2.2.1, .int .i64 x.2.2.2], undef, undef, undef, undef], defers := [] })) own_ax1 ?assign ?body ?done ?hE ?stop
  case assign =>
    intro l2 m2 fp pre x W2 K hI hX hK
    replace hK := Lib.hid hK
    simp only [aggE]
    gi_wp2
    have hnew := Blk.new W2 38 (encE x.2).toArray
    have hfin := fun a' h => hK.out a' _ ((Only.refl [] _).alloc _) ((hKI fp).alloc _ hI) ⟨_, h, hnew, hX⟩
    clear hnew
    generalize W2.heap.size = N at hfin ⊢
    exact hfin _ rfl
  case body =>
    rintro l2 m2 fp pre x a' W2 hI ⟨N, rfl, hN, hx1, hx2⟩
    dsimp only at hN hx1 hx2
    obtain ⟨fn, tmps, assign, body, hy, hR⟩ := hY (m2 - 1) fp (pre.map (·.2)) x.2 W2 hI.1 (hXi pre x hx1 hx2)
    have f0 := hI.2.1.cell 0
    have f1 := hN.cell 0
    have f2 := hN.cell 1
    have f3 := hN.cell 2
    simp only [encE, List.size_toArray, List.getElem?_toArray, List.getElem?_cons_zero, List.getElem?_cons_succ] at f0 f1 f2 f3
    have hb0 := hI.2.1.lt
    have hbs := hI.2.2.1.lt
    simp only [aggE] at hy
    gi_wp2
    refine ⟨no_depth, ?_⟩
    refine RoundIn.mono (F := Fence.wide.inRound l2) hR ?_
    rintro e W3 (⟨rfl, ⟨fp', hJ3, hf3⟩, ho3⟩ | ⟨rfl, hJx3, fx, hfx, ho3⟩)
    · gi_wp2
      refine ⟨ho3, fp', ⟨by rw [List.map_append]; exact hJ3, hI.2.1.only ho3 hI.2.2.2.1, hI.2.2.1.only ho3 hI.2.2.2.2, fun hm => ?_, fun hm => ?_⟩, hf3⟩
      · rcases hf3 _ hm with h | h
        · exact hI.2.2.2.1 h
        · omega
      · rcases hf3 _ hm with h | h
        · exact hI.2.2.2.2 h
        · omega
    · gi_wp2
      exact ⟨⟨fx, fun k hk => by have := hfx k hk; omega, ho3⟩, rfl, by rw [List.map_append]; exact hJx3⟩
  case done =>
    rintro Dd fp pre W2 hDd hlen hI hDm
    refine leaves_one hDm ⟨_, results_none rfl _ _ _, ⟨_, rfl⟩, .inl ⟨fp, pre.map (·.2), by simpa using hlen, own_put (hJ fp) _ hI.1 (by omega) hDm rfl⟩⟩
  case hE => intro _ _ _ _ _ _ _ _ h; exact h
  case stop =>
    rintro Dd c pre W2 hDd ⟨rfl, hJx2⟩ hDm
    refine wpIn_wide.2 ?_
    go_wp2
    refine leaves_one hDm ⟨_, results_none rfl _ _ _, ⟨_, rfl⟩, .inr ⟨pre.map (·.2), own_put hJx _ hJx2 (by omega) hDm rfl⟩⟩
end Go.Proofs.Ythhchccjpgpibaa
