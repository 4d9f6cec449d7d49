/- Arenas: what is there, one by one. -/
import Derived.Test.YtlcfgpkokaiogaaArE
import Derived.Test.YtlcfgpkokaiogaaLift
import Derived.Test.YtlcfgpkokaiogaaRange2
namespace Go.Proofs.Ytlcfgpkokaiogaa
open Go Go.RowKit Go.Shelf
set_option linter.unusedVariables false
set_option linter.unusedSimpArgs false
set_option maxHeartbeats 4000000
attribute [local go_sem] Oper.semAt_some
/-- The entries that are there, each with where its literals begin. -/
def pls : Nat → List En → List (Nat × En)
  | _, [] => []
  | b, e :: es => if e.gone then pls (b + e.ls.length) es else (b, e) :: pls (b + e.ls.length) es
theorem pls_append (es fs : List En) : ∀ b, pls b (es ++ fs) = pls b es ++ pls (b + (flat es).length) fs := by
  induction es with
  | nil => intro b; simp [pls, flat]
  | cons e es ih =>
    intro b
    simp only [List.cons_append, pls, ih, flat, List.flatMap_cons, List.length_append]
    rw [show b + e.ls.length + (List.flatMap En.ls es).length = b + (e.ls.length + (List.flatMap En.ls es).length) by omega]
    split <;> simp
theorem take_snoc {α : Type} {l : List α} {k : Nat} {x : α} (h : l[k]? = some x) : l.take (k + 1) = l.take k ++ [x] := by rw [List.take_add_one, h]; rfl
theorem pls_snoc {es : List En} {k : Nat} {e : En} (h : es[k]? = some e) : pls 0 (es.take (k + 1)) = pls 0 (es.take k) ++ (if e.gone then [] else [(off es k, e)]) := by
  rw [take_snoc h, pls_append]
  simp only [pls, Nat.zero_add]
  rfl
theorem pls_next {es : List En} {k : Nat} {e : En} (h : es[k]? = some e) (hg : e.gone = false) : (pls 0 es)[(pls 0 (es.take k)).length]? = some (off es k, e) := by
  have h1 := pls_append (es.take k) (es.drop k) 0
  rw [List.take_append_drop] at h1
  rw [h1, List.getElem?_append_right (Nat.le_refl _), Nat.sub_self]
  have h2 := List.getElem?_eq_some_iff.1 h
  rw [← List.getElem_cons_drop (h := h2.1), h2.2]
  simp [pls, hg, off]
theorem pls_kept (es : List En) : ∀ b, (pls b es).map (·.2) = kept es := by
  induction es with
  | nil => intro b; rfl
  | cons e es ih =>
    intro b
    unfold pls kept
    rw [List.filter_cons]
    cases hg : e.gone with
    | true =>
      simp only [hg, if_true, Bool.not_true, Bool.false_eq_true, if_false]
      exact ih _
    | false =>
      simp only [Bool.false_eq_true, if_false, Bool.not_false, if_true, List.map_cons]
      rw [ih]
      rfl
theorem pls_at (es : List En) : ∀ (b : Nat) (y : Nat × En), y ∈ pls b es → ∃ k, es[k]? = some y.2 ∧ y.1 = b + off es k ∧ y.2.gone = false := by
  induction es with
  | nil => intro b y h; cases h
  | cons e es ih =>
    intro b y h
    have hsh : ∀ y, y ∈ pls (b + e.ls.length) es → ∃ k, (e :: es)[k]? = some y.2 ∧ y.1 = b + off (e :: es) k ∧ y.2.gone = false := by
      intro y hy
      obtain ⟨k, h1, h2, h3⟩ := ih _ y hy
      refine ⟨k + 1, by simpa using h1, ?_, h3⟩
      rw [h2]
      simp [off, flat]; omega
    unfold pls at h
    cases hg : e.gone with
    | true =>
      rw [hg, if_pos rfl] at h
      exact hsh y h
    | false =>
      rw [hg, if_neg (by decide)] at h
      rcases List.mem_cons.1 h with rfl | h
      · exact ⟨0, rfl, by simp [off, flat], hg⟩
      · exact hsh y h
def encE (y : Nat × En) : Array Value := #[.agg #[.int .i64 (y.1 : Int), .int .i64 ((y.1 : Int) + (y.2.ls.length : Int)), .int .i64 (y.2.id : Int), .bool false]]
theorem there_ok (d : Nat) (w : World) : Calls Try.prog 49 #[.pointer (some ⟨d, 0, none⟩)] w fun e w' => e = .returned (.func (.func 55) #[] #[.pointer (some ⟨w.heap.size, 0, none⟩)]) ∧ w.alloc (.cells #[.pointer (some ⟨d, 0, none⟩)] 31) = w' := by
  go_enter Try.func49, Try.ntmps49
  go_wp2
  go_ret
  exact ⟨rfl, rfl⟩
/-- What the iterator reads. -/
def RdT (base d Ba : Nat) (vs va : Value) (u c l : Int) (ns : Nat) (xs : List Value) (es : List En) (W : World) : Prop := Blk W Ba 31 #[.pointer (some ⟨d, 0, none⟩)] ∧ Prt W base d vs va u c l ns es.length xs (encN 0 es)
set_option maxRecDepth 100000 in
theorem seq55 (base d Ba : Nat) (vs va : Value) (u0 c0 l0 : Int) (ns : Nat) (xs0 : List Value) (es : List En) (hfew : es.length ≤ 4294967296) :
    Seq2 Try.prog 55 #[.pointer (some ⟨Ba, 0, none⟩)] encE (fun _ W => RdT base d Ba vs va u0 c0 l0 ns xs0 es W)
      (fun pre _ W y => (pls 0 es)[pre.length]? = some y ∧ pre = (pls 0 es).take pre.length) (fun xs W => xs = pls 0 es) := by
  intro m l J Jx W fp hJ hJx hRd hfp hY h0
  obtain ⟨hba, hA⟩ := hRd _ _ _ h0
  have b0 := hba.cell 0
  simp only [List.getElem?_toArray, List.getElem?_cons_zero] at b0
  have c1 := hA.c1
  obtain ⟨A, c, rfl⟩ := own_form hA.ha
  obtain ⟨n, hn⟩ : ∃ n, n = es.length := ⟨_, rfl⟩
  have hRd' : ∀ fp pre W, J fp pre W → Prt W base d vs (.slice A es.length c) u0 c0 l0 ns es.length xs0 (encN 0 es) := fun fp pre W h => (hRd fp pre W h).2
  rw [← hn] at c1 hfew
  clear hba hRd hA
  have key : CallsIn Fence.wide m Try.prog 55 (#[.func (.yield l) #[] #[]] ++ #[.pointer (some ⟨Ba, 0, none⟩)]) W fun e W' => (∃ v, e = .returned v) ∧ ((∃ fp xs, xs = pls 0 es ∧ J fp xs W') ∨ (∃ pre, Jx pre W')) := by
    refine callsIn_of_wp Try.func55 rfl trivial ?_ rfl
    simp only [Try.ntmps55, List.size_toArray, List.length_cons, List.length_nil, Nat.reduceAdd, Nat.reduceSub, Array.replicate_succ, Array.replicate_zero, List.push_toArray, List.append_toArray, List.nil_append, List.cons_append]
    refine wpIn_wide.2 (wp_scope_straight ?_)
    refine (wpIn_wide (n := m)).1 ?_
    refine wpIn_seq_k (fun K hK => wpIn_label ?_)
    show K _ _
    refine hK _ _ ?_
    clear hK K
    replace hn := Lib.hid hn
    replace hRd' := Lib.hid hRd'
    gi_wp2
    gi_loopw [10] (fun i wr => ∃ (fp : List Nat) (k : Nat), i = .int .i64 k ∧ k ≤ n ∧ J fp (pls 0 (es.take k)) wr) (fun i _ => n - (intOf i).toNat)
    case atStart => exact ⟨fp, 0, rfl, Nat.zero_le _, h0⟩
    case round =>
      clear h0 c1 b0
      obtain ⟨fp, k, rfl, hk, hJs⟩ := hrel
      have k0 : 0 ≤ (k : Int) := by omega
      by_cases hlt : k < n
      · obtain ⟨e, he⟩ : ∃ e, es[k]? = some e := ⟨_, List.getElem?_eq_getElem (by have := hn.out; omega)⟩
        have hA := hRd'.out _ _ _ hJs
        obtain ⟨g, rfl, _, q0, q1, q2, q3⟩ := ent_at hA.ha he
        have hsn := pls_snoc he
        have hnx := pls_next he
        have hpt : pls 0 (es.take k) = (pls 0 es).take (pls 0 (es.take k)).length := by
          have h1 := pls_append (es.take k) (es.drop k) 0
          rw [List.take_append_drop] at h1
          rw [h1, List.take_left]
        have k1 : (k : Int) < (n : Int) := by omega
        have hwl : g < wr.heap.size := by have := hA.ha.lt g rfl; omega
        replace he := Lib.hid he
        replace hA := Lib.hid hA
        replace hpt := Lib.hid hpt
        cases hg : e.gone with
        | true =>
          rw [hg, if_pos rfl, List.append_nil] at hsn
          rw [hg] at q3
          replace hsn := Lib.hid hsn
          replace hnx := Lib.hid hnx
          gi_wp2
          go_roundw
          case rel => exact ⟨fp, k + 1, by go_num, by omega, by rw [hsn.out]; exact (hJ fp).alloc _ hJs⟩
          case measure => simp [intOf]; omega
        | false =>
          rw [hg, if_neg (by decide)] at hsn
          rw [hg] at q3
          replace hsn := Lib.hid hsn
          have hJ1 := (hJ fp).alloc (.cells #[.int .i64 (off es k : Int), .int .i64 ((off es k : Int) + (e.ls.length : Int)), .int .i64 (e.id : Int), .bool false] 76) hJs
          obtain ⟨fn2, tmps, assign, body, hy, hR⟩ := hY (m - 1) fp (pls 0 (es.take k)) (off es k, e) _ _ hJ1 hJ1 (Only.refl _ _) ⟨hnx hg, hpt.out⟩
          dsimp only [encE] at hy hR
          clear hJ1 hnx
          gi_wp2
          refine ⟨no_depth, ?_⟩
          refine hR.mono ?_
          rintro r W3 (⟨rfl, ⟨fp', hJ3, hf3⟩, _⟩ | ⟨rfl, hJx3, _⟩)
          · gi_wp2
            go_roundw
            case rel => exact ⟨fp', k + 1, by go_num, by omega, by rw [hsn.out]; exact hJ3⟩
            case measure => simp [intOf]; omega
          · gi_wp2
            rw [Exit.noGoto_ret]
            refine bodyPost_ret (results_none rfl _ _ _) rfl ?_
            exact ⟨⟨_, rfl⟩, .inr ⟨_, hJx3⟩⟩
      · have k1 : ¬ (k : Int) < (n : Int) := by omega
        gi_wp2
        try rw [Exit.noGoto_normal]
        go_end0
        rw [List.take_of_length_le (by have := hn.out; omega)] at hJs
        exact ⟨⟨_, rfl⟩, .inl ⟨fp, hJs⟩⟩
  exact key
end Go.Proofs.Ytlcfgpkokaiogaa
