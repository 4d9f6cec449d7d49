/- Trees: names, and calls. -/
import Derived.Test.YtnldbplphgfpeaaTSm
namespace Go.Proofs.Ytnldbplphgfpeaa
open Go Go.RowKit Go.Shelf
set_option linter.unusedVariables false
set_option linter.unusedSimpArgs false
set_option maxHeartbeats 4000000
def strs (l : List ByteArray) : List Value := l.map Value.string
theorem strs_len (l : List ByteArray) : (strs l).length = l.length := by simp [strs]
theorem strs_one (l : List ByteArray) : ∀ u ∈ strs l, u.oneCell' = true := by
  intro u hu
  obtain ⟨x, _, rfl⟩ := List.mem_map.1 hu
  rfl
def hasL (l : List ByteArray) (s : ByteArray) : Bool := l.any fun x => s.toList == x.toList
def withL (l : List ByteArray) (s : ByteArray) : List ByteArray := if hasL l s then l else l ++ [s]
theorem hasL_iff {l : List ByteArray} {s : ByteArray} : hasL l s = true ↔ s ∈ l := by
  simp only [hasL, List.any_eq_true, beq_iff_eq]
  constructor
  · rintro ⟨x, hx, h⟩; rw [bl_inj h]; exact hx
  · intro h; exact ⟨s, h, rfl⟩
theorem withL_len (l : List ByteArray) (s : ByteArray) : (withL l s).length ≤ l.length + 1 := by unfold withL; split <;> simp
theorem Reads.str {w : World} {B n : Nat} {A : Option Addr} {l : List ByteArray} (h : Reads w B 1 A n (strs l)) {k : Nat} {x : ByteArray} (hx : l[k]? = some x) : ∃ ad, A = some ad ∧ k < n ∧ w.cell? (ad.add k) = some (.string x) ∧ (ad.add k).block < w.heap.size := by
  have hk := (List.getElem?_eq_some_iff.1 hx).1
  have hn : l.length = n := by have := h.1; rw [strs_len] at this; omega
  obtain ⟨ad, ha, hb, hc⟩ := h.2 (by omega)
  have h2 := hc k (.string x) (by simp [strs, hx])
  exact ⟨ad, ha, by omega, h2, cell_lt h2⟩
set_option maxRecDepth 100000 in
theorem index_ok (A : Option Addr) (n c B : Nat) (l : List ByteArray) (s : ByteArray) (w : World) (h : Reads w B 1 A n (strs l)) (hn : n ≤ 4611686018427387904) :
    Calls Try.prog 61 #[.slice A n c, .string s] w fun e w' => (∃ j : Int, e = .returned (.int .i64 j) ∧ (0 ≤ j ↔ hasL l s = true)) ∧ w = w' := by
  have hl : l.length = n := by have := h.1; rw [strs_len] at this; omega
  replace hl := Lib.hid hl
  go_enter Try.func61, Try.ntmps61
  go_wp2
  go_loop [8] (fun i => ∃ k : Nat, i = .int .i64 k ∧ k ≤ n ∧ ∀ (j : Nat) x, j < k → l[j]? = some x → (s.toList == x.toList) = false) (fun i => n - (intOf i).toNat)
  case atStart => exact ⟨0, rfl, Nat.zero_le _, fun j x h => absurd h (by omega)⟩
  case round =>
    obtain ⟨k, rfl, hk, hno⟩ := hrel
    have k0 : 0 ≤ (k : Int) := by omega
    by_cases hlt : k < n
    · have hx : l[k]? = some (l[k]'(by have := hl.out; omega)) := List.getElem?_eq_getElem (by have := hl.out; omega)
      generalize l[k]'(by have := hl.out; omega) = x at hx
      obtain ⟨ad, rfl, _, hc, hb⟩ := h.str hx
      have k1 : (k : Int) < (n : Int) := by omega
      replace hx := Lib.hid hx
      replace hno := Lib.hid hno
      by_cases he : (s.toList == x.toList) = true
      · have hhas : hasL l s = true := List.any_eq_true.2 ⟨x, List.mem_of_getElem? hx.out, he⟩
        replace hhas := Lib.hid hhas
        go_wp2
        go_ret
        exact ⟨⟨k, rfl, by simp [hhas.out]⟩, rfl⟩
      · simp only [Bool.not_eq_true] at he
        have he' := Lib.hid he
        go_wp2
        go_round
        case rel =>
          refine ⟨k + 1, by go_num, by omega, fun j x' hj hx' => ?_⟩
          by_cases hjk : j = k
          · subst hjk
            have := hx.out.symm.trans hx'
            cases this
            exact he'.out
          · exact hno.out j x' (by omega) hx'
        case measure => simp [intOf]; omega
    · obtain rfl : k = n := by omega
      have hhas : hasL l s = false := by
        cases hh : hasL l s with
        | false => rfl
        | true =>
          obtain ⟨x, hx, he⟩ := List.any_eq_true.1 hh
          obtain ⟨j, hj⟩ := List.mem_iff_getElem?.1 hx
          have := hno j x (by have := (List.getElem?_eq_some_iff.1 hj).1; have := hl.out; omega) hj
          rw [he] at this; cases this
      replace hhas := Lib.hid hhas
      replace hno := Lib.hid hno
      go_wp2
      go_ret
      exact ⟨⟨-1, rfl, by simp [hhas.out]⟩, rfl⟩
theorem contains_ok (A : Option Addr) (n c B : Nat) (l : List ByteArray) (s : ByteArray) (w : World) (h : Reads w B 1 A n (strs l)) (hn : n ≤ 4611686018427387904) :
    Calls Try.prog 23 #[.slice A n c, .string s] w fun e w' => e = .returned (.bool (hasL l s)) ∧ w = w' := by
  have hi := index_ok A n c B l s w h hn
  obtain ⟨b, hb⟩ : ∃ b, hasL l s = b := ⟨_, rfl⟩
  rw [hb] at hi ⊢
  replace hb := Lib.hid hb
  replace hi := Lib.hid hi
  go_enter Try.func23, Try.ntmps23
  go_wp2_with fail
  refine hi.out.mono ?_
  rintro e w' ⟨⟨j, rfl, hj⟩, rfl⟩
  cases b
  · have hj' : ¬ 0 ≤ j := by simpa using hj
    replace hj' := Lib.hid hj'
    clear hj
    go_wp2
    go_ret
    exact ⟨ret_b (by simpa using hj'.out), rfl⟩
  · have hj' : 0 ≤ j := by simpa using hj
    replace hj' := Lib.hid hj'
    clear hj
    go_wp2
    go_ret
    exact ⟨ret_b (by simpa using hj'.out), rfl⟩
theorem infoStr : (Try.prog.info? 9).map (fun i => (i.zero, i.size, i.bytes)) = some (some (.string ⟨#[]⟩), 1, 16) := by kernel_rfl
theorem own_cast {w : World} {base n n' : Nat} {e : TypeId} {size : Nat} {v : Value} {xs xs' : List Value} (h : w.ownsRow base e size v n xs) (hn : n = n') (hx : xs = xs') : w.ownsRow base e size v n' xs' := by
  subst hn; subst hx; exact h
set_option maxRecDepth 100000 in
theorem with_ok (base : Nat) (v : Value) (n : Nat) (l : List ByteArray) (s : ByteArray) (w : World) (hown : w.ownsRow base 9 1 v n (strs l)) (hbase : base ≤ w.heap.size) (hn : n ≤ 1000000) :
    Calls Try.prog 59 #[v, .string s] w fun e w' => ∃ v', e = .returned v' ∧ w'.ownsRow base 9 1 v' (withL l s).length (strs (withL l s)) ∧ w.grownBy w' v.ownBlock ∧ (v'.ownBlock = v.ownBlock ∨ ∃ g, v'.ownBlock = some g ∧ w.heap.size ≤ g) := by
  have hl : l.length = n := by have := hown.1; rw [strs_len] at this; omega
  obtain ⟨A, c, rfl⟩ := own_form hown
  obtain ⟨i0, hi, hz0, hz1, hz2⟩ := info_parts infoStr
  have hc := contains_ok A n c w.heap.size l s w (Reads.of_own hown) (by omega)
  obtain ⟨b, hb⟩ : ∃ b, hasL l s = b := ⟨_, rfl⟩
  rw [hb] at hc
  replace hc := Lib.hid hc
  cases b
  · have hw : withL l s = l ++ [s] := by unfold withL; rw [hb]; rfl
    rw [hw]
    replace hw := Lib.hid hw
    replace hb := Lib.hid hb
    replace hl := Lib.hid hl
    have hbn := Blk.new w 9 #[.string s]
    have hr : Reads (w.alloc (.cells #[.string s] 9)) (w.heap.size + 1) 1 (some ⟨w.heap.size, 0, none⟩) 1 [.string s] :=
      ⟨rfl, fun _ => ⟨_, rfl, by simp, fun j u hu => by
        cases j with
        | zero => simp at hu; subst hu; exact hbn.cell 0
        | succ j => simp at hu⟩⟩
    go_enter Try.func59, Try.ntmps59
    go_wp2_with (first
      | (go_at_call 23; with_reducible refine hc.out.mono ?_; rintro e w' ⟨rfl, rfl⟩)
      | (at_builtin; refine wpList_append_any _ rfl (.tmp 9) (.tmp 11) 53 rfl base 9 i0 _ 1 16 Try.underlying53 hi hz0 hz1 hz2 rfl (by omega) (.slice A n c) n (strs l) rfl (hown.alloc _) (w.heap.size + 1) (some ⟨w.heap.size, 0, none⟩) 1 1 [.string s] rfl hr (by simp [Value.oneCell']) (by simp only [maxLen]; omega) (by omega) (by simp; omega) ?_; intro v1 w1 hown1 hg1 hv1))
    go_ret
    refine ⟨_, rfl, own_cast hown1 (by have := hl.out; simp; omega) (by simp [strs]), ?_, ?_⟩
    · exact (World.grownBy_alloc _ _ _).trans hg1
    · rcases hv1 with h | h
      · exact .inl h
      · exact .inr ⟨_, h, by simp⟩
  · have hw : withL l s = l := by unfold withL; rw [hb]; rfl
    rw [hw]
    replace hw := Lib.hid hw
    replace hb := Lib.hid hb
    replace hl := Lib.hid hl
    go_enter Try.func59, Try.ntmps59
    go_wp2_with (go_at_call 23; with_reducible refine hc.out.mono ?_; rintro e w' ⟨rfl, rfl⟩)
    go_ret
    exact ⟨_, rfl, own_cast hown hl.out.symm rfl, World.grownBy.refl _ _, .inl rfl⟩
/-- The names that an expression uses. -/
def stepN {α : Type} (acc : List ByteArray) (x : Ex α) : List ByteArray := if x.h.kd = 2 ∨ x.h.kd = 3 then withL acc x.h.nm else acc
def namesE {α : Type} (e : Ex α) : List ByteArray := e.nodes.foldl stepN []
def stepC {α : Type} (acc : List ByteArray) (x : St α) : List ByteArray := if x.h.kd = 8 then withL acc x.h.nm else acc
def callsS {α : Type} (l : List (St α)) : List ByteArray := (nodesS l).foldl stepC []
theorem foldN_take {α : Type} {l : List (Ex α)} {k : Nat} {x : Ex α} (h : l[k]? = some x) (acc : List ByteArray) : (l.take (k + 1)).foldl stepN acc = stepN ((l.take k).foldl stepN acc) x := by
  obtain ⟨hk, e⟩ := List.getElem?_eq_some_iff.1 h
  rw [List.take_succ_eq_append_getElem hk, List.foldl_append, e]; rfl
theorem foldC_take {α : Type} {l : List (St α)} {k : Nat} {x : St α} (h : l[k]? = some x) (acc : List ByteArray) : (l.take (k + 1)).foldl stepC acc = stepC ((l.take k).foldl stepC acc) x := by
  obtain ⟨hk, e⟩ := List.getElem?_eq_some_iff.1 h
  rw [List.take_succ_eq_append_getElem hk, List.foldl_append, e]; rfl
theorem foldN_len {α : Type} : ∀ (l : List (Ex α)) (acc : List ByteArray), (l.foldl stepN acc).length ≤ acc.length + l.length
  | [], acc => by simp
  | x :: l, acc => by
    have h1 := foldN_len l (stepN acc x)
    have h2 : (stepN acc x).length ≤ acc.length + 1 := by
      unfold stepN
      split
      · exact withL_len _ _
      · omega
    simp only [List.foldl_cons, List.length_cons]; omega
theorem foldC_len {α : Type} : ∀ (l : List (St α)) (acc : List ByteArray), (l.foldl stepC acc).length ≤ acc.length + l.length
  | [], acc => by simp
  | x :: l, acc => by
    have h1 := foldC_len l (stepC acc x)
    have h2 : (stepC acc x).length ≤ acc.length + 1 := by
      unfold stepC
      split
      · exact withL_len _ _
      · omega
    simp only [List.foldl_cons, List.length_cons]; omega
attribute [local go_sem] Oper.semAt_some
set_option maxRecDepth 100000 in
theorem names_in (m : Nat) (e : Ex Loc) (w : World) (hok : e.ok eT w) (hs : e.sz ≤ 20000) :
    CallsIn Fence.wide m Try.prog 22 #[aggX e] w fun r w' => (∃ v, r = .returned v ∧ w'.ownsRow w.heap.size 9 1 v (namesE e).length (strs (namesE e))) ∧ Below w.heap.size w w' := by
  have hc := fun w2 (hB2 : Below w.heap.size w w2) => countE0 e w2 (hok.below hB2)
  have hl := lightE e hs
  obtain ⟨⟨xk, xo, xv, xw, xn⟩, ⟨xA, xc⟩, xs⟩ := e
  obtain ⟨c, hcc⟩ : ∃ c, c = capE 0 (Ex.mk ⟨xk, xo, xv, xw, xn⟩ ⟨xA, xc⟩ xs).sz := ⟨_, rfl⟩
  rw [← hcc] at hc hl
  replace hcc := Lib.hid hcc
  obtain ⟨R, hR⟩ : ∃ R, R = namesE (Ex.mk ⟨xk, xo, xv, xw, xn⟩ ⟨xA, xc⟩ xs) := ⟨_, rfl⟩
  rw [← hR]
  replace hR := Lib.hid hR
  replace hs := Lib.hid hs
  simp only [aggX, Ex.cells, eT] at hc ⊢
  replace hc := Lib.hid hc
  replace hl := Lib.hid hl
  refine callsIn_of_wp_marks Try.func22 rfl trivial ?_ rfl
  simp only [Try.ntmps22, List.size_toArray, List.length_cons, List.length_nil, Nat.reduceAdd, Nat.reduceSub, Array.replicate_succ, Array.replicate_zero, List.push_toArray, List.append_toArray, List.nil_append, List.cons_append]
  have hB0 : Below w.heap.size w ((w.alloc (.cells #[.int .u8 xk, .int .u8 xo, .int .u32 xv, .int .i64 xw, .string xn, .slice xA xs.length xc] 30)).alloc (.cells #[.slice none 0 0] 53)) := ((Below.refl _ _).alloc (Nat.le_refl _) _).alloc (by simp) _
  have hbe := (Blk.new w 30 #[.int .u8 xk, .int .u8 xo, .int .u32 xv, .int .i64 xw, .string xn, .slice xA xs.length xc]).alloc (.cells #[.slice none 0 0] 53)
  have hbo := Blk.new (w.alloc (.cells #[.int .u8 xk, .int .u8 xo, .int .u32 xv, .int .i64 xw, .string xn, .slice xA xs.length xc] 30)) 53 #[.slice none 0 0]
  rw [World.size_alloc] at hbo
  refine wpIn_wide.2 ?_
  go_wp2_with fail
  have hle := hbe.lt
  have hlo := hbo.lt
  generalize (w.alloc (.cells #[.int .u8 xk, .int .u8 xo, .int .u32 xv, .int .i64 xw, .string xn, .slice xA xs.length xc] 30)).alloc (.cells #[.slice none 0 0] 53) = W0 at *
  refine (hc.out _ hB0).mono ?_
  rintro e w1 ⟨rfl, hB1⟩
  have hB01 := below_and hB0 hB1
  have hbe1 := hbe.below hB1 hle
  have hbo1 := hbo.below hB1 hlo
  have c0 := hbe1.cell 0
  have c1 := hbe1.cell 1
  have c2 := hbe1.cell 2
  have c3 := hbe1.cell 3
  have c4 := hbe1.cell 4
  have c5 := hbe1.cell 5
  simp only [List.getElem?_toArray, List.getElem?_cons_zero, List.getElem?_cons_succ] at c0 c1 c2 c3 c4 c5
  have hl1 := hbe1.lt
  go_wp2_with (first | (go_at_call 40; with_reducible refine (hl.out _).mono ?_; rintro e w' ⟨rfl, rfl⟩) | (go_at_call 60; refine (exprs_ok ⟨xk, xo, xv, xw, xn⟩ ⟨xA, xc⟩ xs _).mono ?_; rintro e w' ⟨rfl, rfl⟩))
  have hB2 := (Below.refl _ w1).alloc (Nat.le_refl _) (.cells #[.int .u8 xk, .int .u8 xo, .int .u32 xv, .int .i64 xw, .string xn, .slice xA xs.length xc] 30)
  have hbx := Blk.new w1 30 #[.int .u8 xk, .int .u8 xo, .int .u32 xv, .int .i64 xw, .string xn, .slice xA xs.length xc]
  have hbo2 := hbo1.below hB2 hbo1.lt
  have hB02 := below_and hB01 hB2
  generalize w1.alloc (.cells #[.int .u8 xk, .int .u8 xo, .int .u32 xv, .int .i64 xw, .string xn, .slice xA xs.length xc] 30) = W2 at *
  obtain ⟨Bo, hBo⟩ : ∃ Bo, w.heap.size + 1 = Bo := ⟨_, rfl⟩
  obtain ⟨Bx, hBx⟩ : ∃ Bx, w1.heap.size = Bx := ⟨_, rfl⟩
  rw [hBo] at hbo2 ⊢
  rw [hBx] at hbx ⊢
  clear hbe hbo hbe1 hbo1 c0 c1 c2 c3 c4 c5 hle hlo hl1 hB1 hB01 hB2 hBx
  clear w1 hB0
  clear W0
  have hwo : w.heap.size ≤ Bo := by omega
  replace hBo := Lib.hid hBo
  have hlW2 := hB02.size
  refine (wpIn_wide (n := m)).1 ?_
  rename_i hcont
  replace hcont := Lib.hid hcont
  refine wpIn_range3 rfl (enters_of Try.func74 (by kernel_rfl) rfl) (seqE (Ex.mk ⟨xk, xo, xv, xw, xn⟩ ⟨xA, xc⟩ xs) Bx) (fun _ => rfl)
    (fun fp pre W => ∃ v, fp = Bo :: v.ownBlock.toList ∧ Blk W Bo 53 #[v] ∧ W.ownsRow w.heap.size 9 1 v (((Ex.mk ⟨xk, xo, xv, xw, xn⟩ (⟨xA, xc⟩ : Loc) xs).nodes.take pre.length).foldl stepN []).length (strs (((Ex.mk ⟨xk, xo, xv, xw, xn⟩ (⟨xA, xc⟩ : Loc) xs).nodes.take pre.length).foldl stepN [])) ∧ Blk W Bx 30 #[.int .u8 xk, .int .u8 xo, .int .u32 xv, .int .i64 xw, .string xn, .slice xA xs.length xc] ∧ Below w.heap.size w W)
    (fun _ _ _ => False)
    (fun fp s A A' row hs hg hr => by
      obtain ⟨v, h1, h2, h3, h4, h5⟩ := hs
      exact ⟨v, h1, h2.ck (cellsKept_of_grown hg hr), own_ck h3 (cellsKept_of_grown hg hr), h4.ck (cellsKept_of_grown hg hr), below_ck h5 (Nat.le_refl _) (cellsKept_of_grown hg hr) hlW2⟩)
    (fun _ _ _ _ _ h _ _ => h)
    (fun fp pre W h => by obtain ⟨v, h1, h2, h3, h4, h5⟩ := h; exact ⟨h4, hok.below h5⟩)
    (fun fp pre W h k hk => by
      obtain ⟨v, rfl, h2, h3, h4, h5⟩ := h
      rcases List.mem_cons.1 hk with e | hk
      · rw [e]; exact h2.lt
      · exact (h3.lt k (by simpa using hk)).2) [Bo] ⟨.slice none 0 0, rfl, hbo2, World.ownsRow_nil _ _ _ _, hbx, hB02⟩
    (AxB 30 (fun y => (y.cells eT).toArray) aggX 10 4 (fun pre y => (Ex.mk ⟨xk, xo, xv, xw, xn⟩ (⟨xA, xc⟩ : Loc) xs).nodes[pre.length]? = some y)) own_axB ?assign ?body ?done ?hE ?stop
  case assign =>
    intro l2 m2 fp pre2 y W3 K hI hX hK
    replace hK := Lib.hid hK
    obtain ⟨v, h1, h2, h3, h4, h5⟩ := hI
    obtain ⟨⟨yk, yo, yv, yw, yn⟩, ⟨yA, yc⟩, ys⟩ := y
    simp only [aggX, Ex.cells, eT]
    replace h1 := Lib.hid h1
    gi_wp2
    have hnew := Blk.new W3 30 #[.int .u8 yk, .int .u8 yo, .int .u32 yv, .int .i64 yw, .string yn, .slice yA ys.length yc]
    have hB3 := (Below.refl _ W3).alloc (Nat.le_refl _) (.cells #[.int .u8 yk, .int .u8 yo, .int .u32 yv, .int .i64 yw, .string yn, .slice yA ys.length yc] 30)
    have hfin := fun a' h => hK.out a' _ (only_of_below [] hB3) ⟨v, h1.out, h2.below hB3 h2.lt, h3.alloc _, h4.below hB3 h4.lt, below_and h5 hB3⟩ ⟨_, h, hnew, hX⟩
    clear hnew hB3
    generalize W3.heap.size = N at hfin ⊢
    refine hfin _ ?_
    simp only [updB, aggX, Ex.cells, eT, List.setIfInBounds_toArray, List.set_cons_succ, List.set_cons_zero]
  case body =>
    rintro l2 m2 fp pre y a' W3 ⟨v, rfl, h2, h3, h4, h5⟩ ⟨N, rfl, hN, hX⟩
    have hstep := foldN_take hX []
    have hlen := foldN_len ((Ex.mk ⟨xk, xo, xv, xw, xn⟩ (⟨xA, xc⟩ : Loc) xs).nodes.take pre.length) []
    have hpl := (List.getElem?_eq_some_iff.1 hX).1
    rw [Ex.nodes_len] at hpl
    have hs' := hs.out
    rw [List.length_take] at hlen
    simp only [List.length_nil, Nat.zero_add] at hlen
    obtain ⟨cur, hcur⟩ : ∃ cur, cur = ((Ex.mk ⟨xk, xo, xv, xw, xn⟩ (⟨xA, xc⟩ : Loc) xs).nodes.take pre.length).foldl stepN [] := ⟨_, rfl⟩
    rw [← hcur] at h3 hstep hlen
    have hl6 : cur.length ≤ 1000000 := by omega
    obtain ⟨⟨yk, yo, yv, yw, yn⟩, ⟨yA, yc⟩, ys⟩ := y
    clear hlen hpl hs' hcur
    replace hstep := Lib.hid hstep
    replace hX := Lib.hid hX
    have f0 := h2.cell 0
    have f1 := h2.frozen 0
    have g0 := hN.cell 0
    have g4 := hN.cell 4
    simp only [Ex.cells, eT, List.getElem?_toArray, List.getElem?_cons_zero, List.getElem?_cons_succ] at f0 g0 g4
    have hol := h2.lt
    have hNl := hN.lt
    have hcall := with_ok w.heap.size v cur.length cur yn W3 h3 h5.size hl6
    have hvo : some Bo ≠ v.ownBlock := fun e => own_blk_ne h3 h2 (by decide) e.symm
    have hvx : some Bx ≠ v.ownBlock := fun e => own_blk_ne h3 h4 (by decide) e.symm
    have hbxo : Bx ≠ Bo := Blk.ne_ h4 h2 (by decide)
    replace hcall := Lib.hid hcall
    simp only [updB, aggX, Ex.cells, eT, List.setIfInBounds_toArray, List.set_cons_succ, List.set_cons_zero]
    by_cases hk : yk = 2 ∨ yk = 3
    · have hst : ((Ex.mk ⟨xk, xo, xv, xw, xn⟩ (⟨xA, xc⟩ : Loc) xs).nodes.take (pre.length + 1)).foldl stepN [] = withL cur yn := by
        rw [hstep.out]; show (if yk = 2 ∨ yk = 3 then withL cur yn else cur) = _; rw [if_pos hk]
      replace hst := Lib.hid hst
      have hfin : ∀ v' w5, w5.ownsRow w.heap.size 9 1 v' (withL cur yn).length (strs (withL cur yn)) → W3.grownBy w5 v.ownBlock → (v'.ownBlock = v.ownBlock ∨ ∃ g, v'.ownBlock = some g ∧ W3.heap.size ≤ g) →
          Only (Bo :: v.ownBlock.toList) W3 (w5.setCell ⟨Bo, 0, none⟩ v') ∧ ∃ fp', (∃ v, fp' = Bo :: v.ownBlock.toList ∧ Blk (w5.setCell ⟨Bo, 0, none⟩ v') Bo 53 #[v] ∧ (w5.setCell ⟨Bo, 0, none⟩ v').ownsRow w.heap.size 9 1 v (((Ex.mk ⟨xk, xo, xv, xw, xn⟩ (⟨xA, xc⟩ : Loc) xs).nodes.take (pre ++ [Ex.mk ⟨yk, yo, yv, yw, yn⟩ ⟨yA, yc⟩ ys]).length).foldl stepN []).length (strs (((Ex.mk ⟨xk, xo, xv, xw, xn⟩ (⟨xA, xc⟩ : Loc) xs).nodes.take (pre ++ [Ex.mk ⟨yk, yo, yv, yw, yn⟩ ⟨yA, yc⟩ ys]).length).foldl stepN [])) ∧ Blk (w5.setCell ⟨Bo, 0, none⟩ v') Bx 30 #[.int .u8 xk, .int .u8 xo, .int .u32 xv, .int .i64 xw, .string xn, .slice xA xs.length xc] ∧ Below w.heap.size w (w5.setCell ⟨Bo, 0, none⟩ v')) ∧ ∀ k, k ∈ fp' → k ∈ Bo :: v.ownBlock.toList ∨ W3.heap.size ≤ k := by
        intro v' w5 hown hg hv'
        have h25 := h2.grown hg hvo
        have hB5 : Below w.heap.size w w5 := h5.grown hg h5.size (fun k hk => (h3.lt k hk).1)
        refine ⟨((Only.refl _ _).grown hg (fun k hk => .inl (by simp [hk]))).setCell (.inl (by simp)) _, _, ⟨v', rfl, ?_, ?_, (h4.grown hg hvx).far (p := ⟨Bo, 0, none⟩) hbxo _, hB5.setCell hwo _⟩, fun k hk => ?_⟩
        · have := h25.set_ 0 v'
          simpa using this
        · rw [List.length_append, List.length_singleton, hst.out]
          refine own_only hown (fp := [Bo]) ((Only.refl _ _).setCell (.inl (by simp)) _) (fun k hk hm => ?_)
          simp at hm
          subst hm
          exact own_blk_ne hown h25 (by decide) hk
        · rcases List.mem_cons.1 hk with e | hk
          · exact .inl (by rw [e]; simp)
          · simp only [Option.mem_toList] at hk
            rcases hv' with e | ⟨g, e, hg'⟩
            · exact .inl (by rw [e] at hk; simp [hk])
            · rw [e] at hk
              cases hk
              exact .inr hg'
      replace hfin := Lib.hid hfin
      by_cases hk2 : yk = 2
      · subst hk2
        gi_wp2_with (refine ⟨trivial, no_depth, ?_⟩; gi_at_call 59; refine ((callsIn_wide.2 hcall.out).inRound l2).mono ?_; rintro e w5 ⟨v', rfl, hown, hg, hv'⟩; obtain ⟨A', c', rfl⟩ := own_form hown; have h25 := h2.grown hg hvo; have f5 := h25.cell 0; have f6 := h25.frozen 0; simp only [List.getElem?_toArray, List.getElem?_cons_zero] at f5; have hl5 := h25.lt)
        exact hfin.out _ w5 hown hg hv'
      · have hk3 : yk = 3 := by rcases hk with h | h; exact absurd h hk2; exact h
        subst hk3
        gi_wp2_with (refine ⟨trivial, no_depth, ?_⟩; gi_at_call 59; refine ((callsIn_wide.2 hcall.out).inRound l2).mono ?_; rintro e w5 ⟨v', rfl, hown, hg, hv'⟩; obtain ⟨A', c', rfl⟩ := own_form hown; have h25 := h2.grown hg hvo; have f5 := h25.cell 0; have f6 := h25.frozen 0; simp only [List.getElem?_toArray, List.getElem?_cons_zero] at f5; have hl5 := h25.lt)
        exact hfin.out _ w5 hown hg hv'
    · have hst : ((Ex.mk ⟨xk, xo, xv, xw, xn⟩ (⟨xA, xc⟩ : Loc) xs).nodes.take (pre.length + 1)).foldl stepN [] = cur := by
        rw [hstep.out]; show (if yk = 2 ∨ yk = 3 then withL cur yn else cur) = _; rw [if_neg hk]
      replace hst := Lib.hid hst
      have hk2 : (yk == 2) = false := by simp; intro h; exact hk (.inl h)
      have hk3 : (yk == 3) = false := by simp; intro h; exact hk (.inr h)
      clear hk
      gi_wp2
      refine ⟨Only.refl _ _, _, ⟨v, rfl, h2, ?_, h4, h5⟩, fun k hk => .inl hk⟩
      rw [List.length_append, List.length_singleton, hst.out]
      exact h3
  case done =>
    rintro D fp pre W3 hD hlen ⟨v, h1, h2, h3, h4, h5⟩ hDn hDm
    rw [hlen, ← Ex.nodes_len, List.take_length] at h3
    have f0 := h2.cell 0
    simp only [List.getElem?_toArray, List.getElem?_cons_zero] at f0
    have hol := h2.lt
    replace h1 := Lib.hid h1
    replace hlen := Lib.hid hlen
    refine hcont.out _ _ ?_
    go_wp2
    exact leaves_one hDm ⟨_, results_tmp rfl _ _ _, ⟨v, rfl, by rw [hR.out]; exact ownsRow_putObj h3 _ hDm rfl⟩, h5.trans (belowK_b (w := w) (Nat.le_refl _) W3 D _ _ (by omega) hDm rfl rfl)⟩
  case hE => intro _ _ _ _ _ _ _ _ h; exact h
  case stop => rintro _ _ _ _ _ h; exact h.elim
theorem names_ok (e : Ex Loc) (w : World) (hok : e.ok eT w) (hs : e.sz ≤ 20000) :
    Calls Try.prog 22 #[aggX e] w fun r w' => (∃ v, r = .returned v ∧ w'.ownsRow w.heap.size 9 1 v (namesE e).length (strs (namesE e))) ∧ Below w.heap.size w w' := callsIn_wide.1 (names_in 0 e w hok hs)
theorem nodesS_len_le {α : Type} (l : List (St α)) : (nodesS l).length ≤ szS l := by
  have h : ∀ N : List (St α), N.length ≤ wtS N := by
    intro N
    induction N with
    | nil => exact Nat.le_refl _
    | cons x N ih => simp only [wtS, List.map_cons, List.sum_cons, List.length_cons] at ih ⊢; omega
  have := h (nodesS l)
  rw [wt_nodesS] at this; exact this
set_option maxRecDepth 100000 in
theorem calls_in (m : Nat) (ls : List (St Loc)) (lc : Loc) (w : World) (hok : Lst.ok eT w lc ls) (hs : szS ls ≤ 20000) :
    CallsIn Fence.wide m Try.prog 20 #[.slice lc.A ls.length lc.c] w fun r w' => (∃ v, r = .returned v ∧ w'.ownsRow w.heap.size 9 1 v (callsS ls).length (strs (callsS ls))) ∧ Below w.heap.size w w' := by
  have hc := fun w2 (hB2 : Below w.heap.size w w2) => countS0 ls lc (thin_of hs) w2 (hok.all (keeps_below hB2))
  have hl := lightS ls hs
  obtain ⟨n, hn⟩ : ∃ n, n = ls.length := ⟨_, rfl⟩
  rw [← hn] at hc ⊢
  replace hn := Lib.hid hn
  obtain ⟨c, hcc⟩ : ∃ c, c = cntL (nodesS ls) 0 := ⟨_, rfl⟩
  rw [← hcc] at hc hl
  replace hcc := Lib.hid hcc
  obtain ⟨R, hR⟩ : ∃ R, R = callsS ls := ⟨_, rfl⟩
  rw [← hR]
  replace hR := Lib.hid hR
  replace hs := Lib.hid hs
  replace hc := Lib.hid hc
  replace hl := Lib.hid hl
  refine callsIn_of_wp_marks Try.func20 rfl trivial ?_ rfl
  simp only [Try.ntmps20, List.size_toArray, List.length_cons, List.length_nil, Nat.reduceAdd, Nat.reduceSub, Array.replicate_succ, Array.replicate_zero, List.push_toArray, List.append_toArray, List.nil_append, List.cons_append]
  have hB0 : Below w.heap.size w (w.alloc (.cells #[.slice none 0 0] 53)) := (Below.refl _ _).alloc (Nat.le_refl _) _
  have hbo := Blk.new w 53 #[.slice none 0 0]
  refine wpIn_wide.2 ?_
  go_wp2_with fail
  have hlo := hbo.lt
  generalize w.alloc (.cells #[.slice none 0 0] 53) = W0 at *
  refine (hc.out _ hB0).mono ?_
  rintro e w1 ⟨rfl, hB1⟩
  have hB01 := below_and hB0 hB1
  have hbo1 := hbo.below hB1 hlo
  go_wp2_with (first | (go_at_call 40; with_reducible refine (hl.out _).mono ?_; rintro e w' ⟨rfl, rfl⟩) | (go_at_call 58; refine (stmts_ok lc.A n lc.c _).mono ?_; rintro e w' ⟨rfl, rfl⟩))
  have hB2 := (Below.refl _ w1).alloc (Nat.le_refl _) (.cells #[.slice lc.A n lc.c] 33)
  have hbx := Blk.new w1 33 #[.slice lc.A n lc.c]
  have hbo2 := hbo1.below hB2 hbo1.lt
  have hB02 := below_and hB01 hB2
  generalize w1.alloc (.cells #[.slice lc.A n lc.c] 33) = W2 at *
  obtain ⟨Bo, hBo⟩ : ∃ Bo, w.heap.size = Bo := ⟨_, rfl⟩
  obtain ⟨Bx, hBx⟩ : ∃ Bx, w1.heap.size = Bx := ⟨_, rfl⟩
  rw [hBo] at hbo2 ⊢
  rw [hBx] at hbx ⊢
  clear hbo hbo1 hlo hB1 hB01 hB2 hBx
  clear w1 hB0
  clear W0
  have hwo : w.heap.size ≤ Bo := by omega
  replace hBo := Lib.hid hBo
  have hlW2 := hB02.size
  refine (wpIn_wide (n := m)).1 ?_
  rename_i hcont
  replace hcont := Lib.hid hcont
  refine wpIn_range3 rfl (enters_of Try.func73 (by kernel_rfl) rfl) (seqS ls lc Bx) (fun _ => rfl)
    (fun fp pre W => ∃ v, fp = Bo :: v.ownBlock.toList ∧ Blk W Bo 53 #[v] ∧ W.ownsRow w.heap.size 9 1 v (((nodesS ls).take pre.length).foldl stepC []).length (strs (((nodesS ls).take pre.length).foldl stepC [])) ∧ Blk W Bx 33 #[.slice lc.A n lc.c] ∧ Below w.heap.size w W)
    (fun _ _ _ => False)
    (fun fp s A A' row hs hg hr => by
      obtain ⟨v, h1, h2, h3, h4, h5⟩ := hs
      exact ⟨v, h1, h2.ck (cellsKept_of_grown hg hr), own_ck h3 (cellsKept_of_grown hg hr), h4.ck (cellsKept_of_grown hg hr), below_ck h5 (Nat.le_refl _) (cellsKept_of_grown hg hr) hlW2⟩)
    (fun _ _ _ _ _ h _ _ => h)
    (fun fp pre W h => by obtain ⟨v, h1, h2, h3, h4, h5⟩ := h; exact ⟨by rw [← hn.out]; exact h4, hok.all (keeps_below h5)⟩)
    (fun fp pre W h k hk => by
      obtain ⟨v, rfl, h2, h3, h4, h5⟩ := h
      rcases List.mem_cons.1 hk with e | hk
      · rw [e]; exact h2.lt
      · exact (h3.lt k (by simpa using hk)).2) [Bo] ⟨.slice none 0 0, rfl, hbo2, World.ownsRow_nil _ _ _ _, hbx, hB02⟩
    (AxB 51 (fun y => (y.cells eT).toArray) aggS 10 4 (fun pre y => (nodesS ls)[pre.length]? = some y)) own_axB ?assign ?body ?done ?hE ?stop
  case assign =>
    intro l2 m2 fp pre2 y W3 K hI hX hK
    replace hK := Lib.hid hK
    obtain ⟨v, h1, h2, h3, h4, h5⟩ := hI
    obtain ⟨⟨yk, yn, yb⟩, ⟨yA, yc⟩, ⟨zA, zc⟩, ⟨vA, vc⟩, yx, yt, ye⟩ := y
    simp only [aggS, St.cells, eT]
    replace h1 := Lib.hid h1
    gi_wp2
    have hnew := Blk.new W3 51 #[.int .u8 yk, .string yn, .slice yA yx.length yc, .int .i64 yb, .slice zA yt.length zc, .slice vA ye.length vc]
    have hB3 := (Below.refl _ W3).alloc (Nat.le_refl _) (.cells #[.int .u8 yk, .string yn, .slice yA yx.length yc, .int .i64 yb, .slice zA yt.length zc, .slice vA ye.length vc] 51)
    have hfin := fun a' h => hK.out a' _ (only_of_below [] hB3) ⟨v, h1.out, h2.below hB3 h2.lt, h3.alloc _, h4.below hB3 h4.lt, below_and h5 hB3⟩ ⟨_, h, hnew, hX⟩
    clear hnew hB3
    generalize W3.heap.size = N at hfin ⊢
    refine hfin _ ?_
    simp only [updB, aggS, St.cells, eT, List.setIfInBounds_toArray, List.set_cons_succ, List.set_cons_zero]
  case body =>
    rintro l2 m2 fp pre y a' W3 ⟨v, rfl, h2, h3, h4, h5⟩ ⟨N, rfl, hN, hX⟩
    have hstep := foldC_take hX []
    have hlen := foldC_len ((nodesS ls).take pre.length) []
    have hpl := (List.getElem?_eq_some_iff.1 hX).1
    have hwl := nodesS_len_le ls
    have hs' := hs.out
    rw [List.length_take] at hlen
    simp only [List.length_nil, Nat.zero_add] at hlen
    obtain ⟨cur, hcur⟩ : ∃ cur, cur = ((nodesS ls).take pre.length).foldl stepC [] := ⟨_, rfl⟩
    rw [← hcur] at h3 hstep hlen
    have hl6 : cur.length ≤ 1000000 := by omega
    obtain ⟨⟨yk, yn, yb⟩, ⟨yA, yc⟩, ⟨zA, zc⟩, ⟨vA, vc⟩, yx, yt, ye⟩ := y
    clear hlen hpl hs' hcur
    replace hstep := Lib.hid hstep
    replace hX := Lib.hid hX
    have f0 := h2.cell 0
    have f1 := h2.frozen 0
    have g0 := hN.cell 0
    have g4 := hN.cell 1
    simp only [St.cells, eT, List.getElem?_toArray, List.getElem?_cons_zero, List.getElem?_cons_succ] at f0 g0 g4
    have hol := h2.lt
    have hNl := hN.lt
    have hcall := with_ok w.heap.size v cur.length cur yn W3 h3 h5.size hl6
    have hvo : some Bo ≠ v.ownBlock := fun e => own_blk_ne h3 h2 (by decide) e.symm
    have hvx : some Bx ≠ v.ownBlock := fun e => own_blk_ne h3 h4 (by decide) e.symm
    have hbxo : Bx ≠ Bo := Blk.ne_ h4 h2 (by decide)
    replace hcall := Lib.hid hcall
    simp only [updB, aggS, St.cells, eT, List.setIfInBounds_toArray, List.set_cons_succ, List.set_cons_zero]
    by_cases hk : yk = 8
    · have hst : ((nodesS ls).take (pre.length + 1)).foldl stepC [] = withL cur yn := by
        rw [hstep.out]; show (if yk = 8 then withL cur yn else cur) = _; rw [if_pos hk]
      replace hst := Lib.hid hst
      have hfin : ∀ v' w5, w5.ownsRow w.heap.size 9 1 v' (withL cur yn).length (strs (withL cur yn)) → W3.grownBy w5 v.ownBlock → (v'.ownBlock = v.ownBlock ∨ ∃ g, v'.ownBlock = some g ∧ W3.heap.size ≤ g) →
          Only (Bo :: v.ownBlock.toList) W3 (w5.setCell ⟨Bo, 0, none⟩ v') ∧ ∃ fp', (∃ v, fp' = Bo :: v.ownBlock.toList ∧ Blk (w5.setCell ⟨Bo, 0, none⟩ v') Bo 53 #[v] ∧ (w5.setCell ⟨Bo, 0, none⟩ v').ownsRow w.heap.size 9 1 v (((nodesS ls).take (pre ++ [St.mk ⟨yk, yn, yb⟩ ⟨yA, yc⟩ ⟨zA, zc⟩ ⟨vA, vc⟩ yx yt ye]).length).foldl stepC []).length (strs (((nodesS ls).take (pre ++ [St.mk ⟨yk, yn, yb⟩ ⟨yA, yc⟩ ⟨zA, zc⟩ ⟨vA, vc⟩ yx yt ye]).length).foldl stepC [])) ∧ Blk (w5.setCell ⟨Bo, 0, none⟩ v') Bx 33 #[.slice lc.A n lc.c] ∧ Below w.heap.size w (w5.setCell ⟨Bo, 0, none⟩ v')) ∧ ∀ k, k ∈ fp' → k ∈ Bo :: v.ownBlock.toList ∨ W3.heap.size ≤ k := by
        intro v' w5 hown hg hv'
        have h25 := h2.grown hg hvo
        have hB5 : Below w.heap.size w w5 := h5.grown hg h5.size (fun k hk => (h3.lt k hk).1)
        refine ⟨((Only.refl _ _).grown hg (fun k hk => .inl (by simp [hk]))).setCell (.inl (by simp)) _, _, ⟨v', rfl, ?_, ?_, (h4.grown hg hvx).far (p := ⟨Bo, 0, none⟩) hbxo _, hB5.setCell hwo _⟩, fun k hk => ?_⟩
        · have := h25.set_ 0 v'
          simpa using this
        · rw [List.length_append, List.length_singleton, hst.out]
          refine own_only hown (fp := [Bo]) ((Only.refl _ _).setCell (.inl (by simp)) _) (fun k hk hm => ?_)
          simp at hm
          subst hm
          exact own_blk_ne hown h25 (by decide) hk
        · rcases List.mem_cons.1 hk with e | hk
          · exact .inl (by rw [e]; simp)
          · simp only [Option.mem_toList] at hk
            rcases hv' with e | ⟨g, e, hg'⟩
            · exact .inl (by rw [e] at hk; simp [hk])
            · rw [e] at hk
              cases hk
              exact .inr hg'
      replace hfin := Lib.hid hfin
      subst hk
      gi_wp2_with (refine ⟨trivial, no_depth, ?_⟩; gi_at_call 59; refine ((callsIn_wide.2 hcall.out).inRound l2).mono ?_; rintro e w5 ⟨v', rfl, hown, hg, hv'⟩; obtain ⟨A', c', rfl⟩ := own_form hown; have h25 := h2.grown hg hvo; have f5 := h25.cell 0; have f6 := h25.frozen 0; simp only [List.getElem?_toArray, List.getElem?_cons_zero] at f5; have hl5 := h25.lt)
      exact hfin.out _ w5 hown hg hv'
    · have hst : ((nodesS ls).take (pre.length + 1)).foldl stepC [] = cur := by
        rw [hstep.out]; show (if yk = 8 then withL cur yn else cur) = _; rw [if_neg hk]
      replace hst := Lib.hid hst
      have hk2 : (yk == 8) = false := by simp; exact hk
      clear hk
      gi_wp2
      refine ⟨Only.refl _ _, _, ⟨v, rfl, h2, ?_, h4, h5⟩, fun k hk => .inl hk⟩
      rw [List.length_append, List.length_singleton, hst.out]
      exact h3
  case done =>
    rintro D fp pre W3 hD hlen ⟨v, h1, h2, h3, h4, h5⟩ hDn hDm
    rw [hlen, List.take_length] at h3
    have f0 := h2.cell 0
    simp only [List.getElem?_toArray, List.getElem?_cons_zero] at f0
    have hol := h2.lt
    replace h1 := Lib.hid h1
    replace hlen := Lib.hid hlen
    refine hcont.out _ _ ?_
    go_wp2
    exact leaves_one hDm ⟨_, results_tmp rfl _ _ _, ⟨v, rfl, by rw [hR.out]; exact ownsRow_putObj h3 _ hDm rfl⟩, h5.trans (belowK_b (w := w) (Nat.le_refl _) W3 D _ _ (by omega) hDm rfl rfl)⟩
  case hE => intro _ _ _ _ _ _ _ _ h; exact h
  case stop => rintro _ _ _ _ _ h; exact h.elim
theorem calls_ok (ls : List (St Loc)) (lc : Loc) (w : World) (hok : Lst.ok eT w lc ls) (hs : szS ls ≤ 20000) :
    Calls Try.prog 20 #[.slice lc.A ls.length lc.c] w fun r w' => (∃ v, r = .returned v ∧ w'.ownsRow w.heap.size 9 1 v (callsS ls).length (strs (callsS ls))) ∧ Below w.heap.size w w' := callsIn_wide.1 (calls_in 0 ls lc w hok hs)
end Go.Proofs.Ytnldbplphgfpeaa
