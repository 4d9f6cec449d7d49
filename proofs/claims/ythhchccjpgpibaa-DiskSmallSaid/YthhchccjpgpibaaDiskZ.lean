/- Disks: the reference: Read, Cache, Barrier, Flush, Write. -/
import Derived.Test.YthhchccjpgpibaaDiskY
import Derived.StillTailTactics
namespace Go.Proofs.Ythhchccjpgpibaa
open Go Go.RowKit Go.Shelf
set_option linter.unusedVariables false
set_option linter.unusedSimpArgs false
set_option maxHeartbeats 4000000
theorem results_cell_row_tmp {P : Program} {fn : Func} {p q : Tmp} {ty : TypeId} (h : fn.results = #[.cell p ty, .tmp q]) (tmps : Array Value) (w : World) (g : Nat) (t : TypeId) (cs : Array Value) (fr : Nat × Nat) (d : TypeDesc)
    (hp : tmps.getD p undef = .pointer (some ⟨g, 0, none⟩)) (hg : w.heap[g]? = some (.cells cs t fr))
    (hu : P.underlying ty = some d) (hd : (match d with | .struct _ | .array _ _ => true | _ => false) = true) (hi : (P.info? ty).map (·.size) = some cs.size) :
    (results fn tmps).run P w = .ok (.tuple #[.agg cs, tmps.getD q undef]) w := by
  have hp' : tmps[p]?.getD undef = .pointer (some ⟨g, 0, none⟩) := by simpa using hp
  simp [results, h, hp', asAddr, run_loadVar_row w g t ty cs fr d hg hu hd hi]
theorem results_cell_row_tmp2 {P : Program} {fn : Func} {p q r : Tmp} {ty : TypeId} (h : fn.results = #[.cell p ty, .tmp q, .tmp r]) (tmps : Array Value) (w : World) (g : Nat) (t : TypeId) (cs : Array Value) (fr : Nat × Nat) (d : TypeDesc)
    (hp : tmps.getD p undef = .pointer (some ⟨g, 0, none⟩)) (hg : w.heap[g]? = some (.cells cs t fr))
    (hu : P.underlying ty = some d) (hd : (match d with | .struct _ | .array _ _ => true | _ => false) = true) (hi : (P.info? ty).map (·.size) = some cs.size) :
    (results fn tmps).run P w = .ok (.tuple #[.agg cs, tmps.getD q undef, tmps.getD r undef]) w := by
  have hp' : tmps[p]?.getD undef = .pointer (some ⟨g, 0, none⟩) := by simpa using hp
  simp [results, h, hp', asAddr, run_loadVar_row w g t ty cs fr d hg hu hd hi]
/-- What Read of the reference answers. -/
def readR (D0 : Dst) (l : List RAct) (b : Int) : Int := if 0 ≤ b ∧ b < D0.ws.length then ((seenF D0.ws l)[b.toNat]?).getD 0 else 0
set_option maxRecDepth 100000 in
theorem rread {w : World} {v : Value} {D0 : Dst} {l : List RAct} (h : Rf w v D0 l) (hl : RI D0 l) (b : Int) : Calls Try.prog 42 #[v, .int .i64 b] w fun e w' => e = .returned (.int .i64 (readR D0 l b)) ∧ Below w.heap.size w w' := by
  obtain ⟨y, hy⟩ : ∃ y, readR D0 l b = y := ⟨_, rfl⟩
  rw [hy]
  have hR := h
  obtain ⟨Af, cf, Ad, cd, rfl, hF, hA, k1, k2, k3, k4⟩ := h
  have hB : Below w.heap.size w (w.alloc (.cells #[.slice Af D0.ws.length cf, .int .i64 D0.wd, .slice Ad l.length cd] 74)) := (Below.refl _ _).alloc (Nat.le_refl _) _
  have hb := Blk.new w 74 #[.slice Af D0.ws.length cf, .int .i64 D0.wd, .slice Ad l.length cd]
  have b0 := hb.cell 0
  have b1 := hb.cell 1
  have b2 := hb.cell 2
  simp only [List.getElem?_toArray, List.getElem?_cons_succ, List.getElem?_cons_zero] at b0 b1 b2
  by_cases hin : 0 ≤ b ∧ b < D0.ws.length
  · obtain ⟨bn, rfl⟩ : ∃ n : Nat, b = (n : Int) := ⟨b.toNat, by omega⟩
    have hbn : bn < D0.ws.length := by omega
    have hy2 : (seenF D0.ws (l.take l.length))[bn]? = some y := by
      rw [List.take_length]
      unfold readR at hy
      rw [if_pos hin, Int.toNat_natCast] at hy
      have hlt : bn < (seenF D0.ws l).length := by rw [seenF_len]; exact hbn
      rw [List.getElem?_eq_getElem hlt] at hy ⊢
      rw [← hy]; rfl
    have h53 := rwritten (hR.new hB) hl bn l.length hbn (Nat.le_refl _) hy2
    replace h53 := Lib.hid h53
    have t1 : ¬ (bn : Int) < 0 := by omega
    have t2 : ¬ (D0.ws.length : Int) ≤ (bn : Int) := by omega
    clear hin hy hy2 hF hA k1 k2 k3 k4 hR hl
    replace hb := Lib.hid hb
    go_enter Try.func42, Try.ntmps42
    go_wp2_with fail
    generalize w.alloc (.cells #[.slice Af D0.ws.length cf, .int .i64 D0.wd, .slice Ad l.length cd] 74) = W1 at *
    go_wp2_with (go_at_call 53; (with_reducible refine h53.out.mono ?_); rintro e w' ⟨rfl, hB2⟩)
    go_ret
    exact ⟨rfl, below_and hB hB2⟩
  · have hy0 : y = 0 := by rw [← hy]; exact if_neg hin
    subst hy0
    clear hF hA k1 k2 k3 k4 hR hl hy
    replace hb := Lib.hid hb
    by_cases h1 : b < 0
    · clear hin
      go_enter Try.func42, Try.ntmps42
      go_wp2
      go_ret
      exact ⟨rfl, hB⟩
    · have h2 : (D0.ws.length : Int) ≤ b := by omega
      clear hin
      go_enter Try.func42, Try.ntmps42
      go_wp2
      go_ret
      exact ⟨rfl, hB⟩
/-- What the reference keeps in mind. -/
theorem run_len (D0 : Dst) (h : D0.es = [] ∧ D0.ep = 0) (l : List RAct) : ((runR D0 l).es.length : Int) ≤ l.length ∧ 0 ≤ (runR D0 l).ep ∧ (runR D0 l).ep ≤ l.length := by
  obtain ⟨q, hq⟩ : ∃ q, q = l.length := ⟨_, rfl⟩
  induction q generalizing l with
  | zero =>
    have : l = [] := List.length_eq_zero_iff.1 hq.symm
    subst this
    show ((D0.es.length : Int) ≤ 0 ∧ 0 ≤ D0.ep ∧ D0.ep ≤ 0)
    rw [h.1, h.2]
    simp
  | succ q ih =>
    have hne : l ≠ [] := by intro e; subst e; simp at hq
    obtain ⟨k, a, rfl⟩ : ∃ k a, l = k ++ [a] := ⟨l.dropLast, l.getLast hne, (List.dropLast_concat_getLast hne).symm⟩
    have := ih k (by simp at hq; omega)
    rw [runR_snoc]
    simp only [List.length_append, List.length_cons, List.length_nil]
    unfold stepR
    split
    · simp; omega
    · split
      · simp; omega
      · simp [flu]; omega
theorem info100 : (Try.prog.info? 100).map (fun i => (i.zero, i.size, i.bytes)) = some (some (.agg #[.int .i64 0, .int .i64 0, .int .i64 0]), 3, 24) := by kernel_rfl
theorem take_snoc' {α : Type} {l : List α} {k : Nat} {x : α} (h : l[k]? = some x) : l.take (k + 1) = l.take k ++ [x] := by rw [List.take_add_one, h]; rfl
/-- While the cache is made. -/
def CacheAt (w : World) (D0 : Dst) (l : List RAct) (Af Ad : Option Addr) (cf cd : Nat) (k i : Nat) (v4 : Value) (e5 : Int) (wr : World) : Prop :=
  k ≤ i ∧ wr.ownsRow w.heap.size 100 3 v4 (runR D0 (l.take i)).es.length (encRs (runR D0 (l.take i)).es) ∧ e5 = (runR D0 (l.take i)).ep ∧ Below w.heap.size w wr ∧ Blk wr w.heap.size 74 #[.slice Af D0.ws.length cf, .int .i64 D0.wd, .slice Ad l.length cd]
set_option maxRecDepth 100000 in
theorem rcache {w : World} {v : Value} {D0 : Dst} {l : List RAct} (h : Rf w v D0 l) (hl : RI D0 l) : Calls Try.prog 51 #[v] w fun e w' => ∃ A c, e = .returned (.tuple #[.slice A (runR D0 l).es.length c, .int .i64 (runR D0 l).ep]) ∧ w'.ownsRow w.heap.size 100 3 (.slice A (runR D0 l).es.length c) (runR D0 l).es.length (encRs (runR D0 l).es) ∧ Below w.heap.size w w' := by
  have hR := h
  obtain ⟨Af, cf, Ad, cd, rfl, hF, hA, k1, k2, k3, k4⟩ := h
  obtain ⟨j0, hj, hj0, hj1, hj2⟩ := info_parts info100
  have hB : Below w.heap.size w (w.alloc (.cells #[.slice Af D0.ws.length cf, .int .i64 D0.wd, .slice Ad l.length cd] 74)) := (Below.refl _ _).alloc (Nat.le_refl _) _
  have hb := Blk.new w 74 #[.slice Af D0.ws.length cf, .int .i64 D0.wd, .slice Ad l.length cd]
  have h57 := rflushed (hR.new hB) hl
  have hfew := hl.few
  have hfi : (l.length : Int) ≤ 1000 := by omega
  have hD : D0.es = [] ∧ D0.ep = 0 := ⟨hl.es, hl.ep⟩
  have hok := hl.ok
  replace h57 := Lib.hid h57
  replace hl := Lib.hid hl
  clear hR k1 k2 k3 k4
  have b0 := hb.cell 0
  have b1 := hb.cell 1
  have b2 := hb.cell 2
  simp only [List.getElem?_toArray, List.getElem?_cons_succ, List.getElem?_cons_zero] at b0 b1 b2
  go_enter Try.func51, Try.ntmps51
  go_wp2_with fail
  generalize w.alloc (.cells #[.slice Af D0.ws.length cf, .int .i64 D0.wd, .slice Ad l.length cd] 74) = W1 at *
  go_wp2_with (go_at_call 57; (with_reducible refine h57.out.mono ?_); rintro e W2 ⟨k, rfl, hk, hB2⟩; clear h57 b0 b1 b2)
  have hbx := hb.below hB2 hb.lt
  have hC0 : CacheAt w D0 l Af Ad cf cd k k (.slice none 0 0) 0 W2 := by
    obtain ⟨f1, f2, _⟩ := fl_at hk D0 hD
    refine ⟨Nat.le_refl _, ?_, f2.symm, below_and hB hB2, hbx⟩
    rw [f1]
    exact World.ownsRow_nil _ _ _ _
  have hkl := hk.1
  clear hb hB2 hbx
  go_loopw [4, 5, 6] (fun v4 e5 i wr => ∃ (j : Nat) (ee : Int), j ≤ l.length ∧ i = .int .i64 j ∧ e5 = .int .i64 ee ∧ CacheAt w D0 l Af Ad cf cd k j v4 ee wr) (fun _ _ i _ => l.length - (intOf i).toNat)
  case atStart => exact ⟨k, 0, hkl, rfl, rfl, hC0⟩
  case round =>
    obtain ⟨j, ee, hjl, rfl, rfl, hkj, hrow, hee, hBr, hbx⟩ := hrel
    clear hC0
    clear W2
    obtain ⟨A4, c4, rfl⟩ := own_form hrow
    have b2 := hbx.cell 2
    simp only [List.getElem?_toArray, List.getElem?_cons_succ, List.getElem?_cons_zero] at b2
    have hrl := run_len D0 hD (l.take j)
    rw [List.length_take, show min j l.length = j by omega] at hrl
    by_cases hlt : j < l.length
    · obtain ⟨x, hx⟩ : ∃ x, l[j]? = some x := ⟨_, List.getElem?_eq_getElem hlt⟩
      obtain ⟨ad, hAd, hadb, q0, q1, q2⟩ := reads_done (hA.below hBr) hx
      subst hAd
      have t1 : (j : Int) < (l.length : Int) := by omega
      have t3 : 0 ≤ (j : Int) := by omega
      have hx3 := hk.2.1 j x hkj hx
      have hxk := (hok x (List.mem_of_getElem? hx)).1
      have hsn : runR D0 (l.take (j + 1)) = stepR (runR D0 (l.take j)) x := by rw [take_snoc' hx, runR_snoc]
      by_cases h2 : x.1 = 2
      · have hnext : CacheAt w D0 l (some ad) (some ad) cf cd k j (.slice A4 (runR D0 (l.take j)).es.length c4) ee wr → True := fun _ => trivial
        have hs2 : stepR (runR D0 (l.take j)) x = { runR D0 (l.take j) with ep := (runR D0 (l.take j)).ep + 1 } := by unfold stepR; rw [if_neg (by omega), if_pos h2]
        have hfin : CacheAt w D0 l Af (some ad) cf cd k (j + 1) (.slice A4 (runR D0 (l.take j)).es.length c4) (ee + 1) wr := by
          refine ⟨by omega, ?_, ?_, hBr, hbx⟩
          · rw [hsn, hs2]; exact hrow
          · rw [hsn, hs2, hee]
        have e1 : 0 ≤ ee := by omega
        have e2 : ee ≤ 1000 := by omega
        rw [h2] at q0
        clear hnext hs2 hsn hx hx3 hxk h2 hrow hee hrl
        replace hfin := Lib.hid hfin
        go_wp2_with fail
        go_roundw
        case rel => exact ⟨j + 1, ee + 1, by omega, by go_num, rfl, hfin.out⟩
        case measure => simp [intOf]; omega
      · have h1 : x.1 = 1 := by omega
        have hs1 : stepR (runR D0 (l.take j)) x = { runR D0 (l.take j) with es := (runR D0 (l.take j)).es ++ [(x.2.1, x.2.2, (runR D0 (l.take j)).ep)] } := by unfold stepR; rw [if_pos h1]
        have hfin : ∀ (v' : Value) (w3 : World), w3.ownsRow w.heap.size 100 3 v' ((runR D0 (l.take j)).es.length + 1) (encRs (runR D0 (l.take j)).es ++ [.int .i64 x.2.1, .int .i64 x.2.2, .int .i64 ee]) →
            (wr.alloc (.cells #[.int .i64 x.2.1, .int .i64 x.2.2, .int .i64 ee] 100)).drew.grownBy w3 (Value.slice A4 (runR D0 (l.take j)).es.length c4).ownBlock → CacheAt w D0 l Af (some ad) cf cd k (j + 1) v' ee w3 := by
          intro v' w3 hown hgrow
          refine ⟨by omega, ?_, ?_, own_below (below_dr (hBr.alloc hBr.size _)) (by show _ ≤ (wr.alloc _).heap.size; rw [World.size_alloc]; have := hBr.size; omega) (row_new hrow (W' := (wr.alloc (.cells #[.int .i64 x.2.1, .int .i64 x.2.2, .int .i64 ee] 100)).drew) (below_dr ((Below.refl _ _).alloc (Nat.le_refl _) _))) hgrow, (Blk.drew (hbx.alloc _)).grown hgrow (own_blk_ne hrow hbx (by decide)).symm⟩
          · rw [hsn, hs1]
            exact own_cast hown (by simp) (by rw [encRs_snoc, hee]; rfl)
          · rw [hsn, hs1]; exact hee
        have hrow2 : (wr.alloc (.cells #[.int .i64 x.2.1, .int .i64 x.2.2, .int .i64 ee] 100)).drew.ownsRow w.heap.size 100 3 (.slice A4 (runR D0 (l.take j)).es.length c4) (runR D0 (l.take j)).es.length (encRs (runR D0 (l.take j)).es) := row_new hrow (below_dr ((Below.refl _ _).alloc (Nat.le_refl _) _))
        have hszr := hBr.size
        have hel : (runR D0 (l.take j)).es.length ≤ 1000 := by omega
        have hlitR := (lit_reads3 wr 100 (.int .i64 x.2.1) (.int .i64 x.2.2) (.int .i64 ee)).drew
        rw [h1] at q0
        clear hs1 hsn hx hx3 hxk h1 h2 hrow hrl
        replace hfin := Lib.hid hfin
        replace hrow2 := Lib.hid hrow2
        replace hlitR := Lib.hid hlitR
        replace hee := Lib.hid hee
        go_wp2_with fail
        go_region_law (first
          | (refine step_append_any (w := (wr.alloc (.cells #[.int .i64 x.2.1, .int .i64 x.2.2, .int .i64 ee] 100)).drew) (by rfl) _ _ 91 (by rfl) w.heap.size 100 j0 _ 3 24 Try.underlying91 hj hj0 hj1 hj2 rfl (by omega) (.slice A4 (runR D0 (l.take j)).es.length c4) (runR D0 (l.take j)).es.length (encRs (runR D0 (l.take j)).es) (by rfl) ?_ (wr.heap.size + 1) (some ⟨wr.heap.size, 0, none⟩) 1 1 [.int .i64 x.2.1, .int .i64 x.2.2, .int .i64 ee] (by rfl) ?_ ?_ ?_ ?_ ?_ ?_; (next => exact hrow2.out); (next => exact hlitR.out); (next => simp [Value.oneCell']); (next => (simp only [maxLen]; omega)); (next => omega); (next => (show _ ≤ (wr.alloc (.cells #[.int .i64 x.2.1, .int .i64 x.2.2, .int .i64 ee] 100)).heap.size; rw [World.size_alloc]; omega)); intro v' w3 hown hgrow hat; have hq := hfin.out v' w3 hown hgrow; replace hq := Lib.hid hq))
        all_goals
          go_wp2_with fail
          go_roundw
          case rel => exact ⟨j + 1, ee, by omega, by go_num, rfl, hq.out⟩
          case measure => simp [intOf]; omega
    · obtain rfl : j = l.length := by omega
      rw [List.take_length] at hrow hee ⊢
      subst hee
      clear hrl
      replace hrow := Lib.hid hrow
      go_wp2
      go_ret2
      exact ⟨A4, c4, rfl, hrow.out, hBr⟩
end Go.Proofs.Ythhchccjpgpibaa
