/- Arenas: Lit; all that is asked, in one form. -/
import Derived.Test.YtlcfgpkokaiogaaArI
namespace Go.Proofs.Ytlcfgpkokaiogaa
open Go Go.RowKit
set_option linter.unusedVariables false
set_option linter.unusedSimpArgs false
set_option maxHeartbeats 4000000
theorem below_drewN_ {B : Nat} {w W : World} (h : Below B w W) (n : Nat) : Below B w (W.drewN n) := ⟨h.os, h.tape, h.output, h.size, h.block⟩
section
variable {w : World} {base d : Nat} {vs va : Value} {es : List En} {last : Nat}
theorem lit_no (h : Arm w base d vs va es last) (id i : Int) (hn : look (als es) id = none) (hb : -9223372036854775808 ≤ id ∧ id ≤ 9223372036854775807) :
    Calls Try.prog 19 #[.pointer (some ⟨d, 0, none⟩), .int .i64 id, .int .i64 i] w fun r w' => r = .returned (.tuple #[.int .i64 0, .int .i64 30]) ∧ Below w.heap.size w w' := by
  have he := entry_no h id hn hb
  replace he := Lib.hid he
  clear h hn
  go_enter Try.func19, Try.ntmps19
  go_wp2_with (go_at_call 40; refine he.out.mono ?_; rintro e w' ⟨rfl, hB⟩; have hb5 := hB.alloc hB.size (.cells #[.int .i64 0, .int .i64 0, .int .i64 0, .bool false] 76))
  go_ret2
  exact ⟨rfl, hb5⟩
set_option maxRecDepth 100000 in
theorem lit_out (h : Arm w base d vs va es last) {k : Nat} {e : En} (hk : es[k]? = some e) (hg : e.gone = false) (i : Int) (hi : i < 0 ∨ (e.ls.length : Int) ≤ i) :
    Calls Try.prog 19 #[.pointer (some ⟨d, 0, none⟩), .int .i64 (e.id : Int), .int .i64 i] w fun r w' => r = .returned (.tuple #[.int .i64 0, .int .i64 2]) ∧ Below w.heap.size w w' := by
  have he := entry_yes h hk hg
  have hol := off_le es k e hk
  have hheld := h.ok.held
  have hus := h.ok.us
  generalize off es k = f at *
  generalize e.ls.length = L at *
  have e3 : (f : Int) + (L : Int) - (f : Int) = L := by omega
  have hsp := spanlen_any (f : Int) ((f : Int) + (L : Int)) (by omega) (by omega)
  rw [e3] at hsp
  replace he := Lib.hid he
  replace hsp := Lib.hid hsp
  clear h hk e3
  by_cases h1 : i < 0
  · clear hi
    go_enter Try.func19, Try.ntmps19
    go_wp2_with (go_at_call 40; refine he.out.mono ?_; rintro e w' ⟨rfl, hB⟩; have hb5 := hB.alloc hB.size (.cells #[.int .i64 (f : Int), .int .i64 ((f : Int) + (L : Int)), .int .i64 (e.id : Int), .bool false] 76))
    go_ret2
    exact ⟨rfl, hb5⟩
  · have h2 : (L : Int) ≤ i := by omega
    have h3 : decide (i < 0) = false := by simp; omega
    clear hi
    go_enter Try.func19, Try.ntmps19
    go_wp2_with (first
      | (go_at_call 40; refine he.out.mono ?_; rintro e w' ⟨rfl, hB⟩; have hb5 := hB.alloc hB.size (.cells #[.int .i64 (f : Int), .int .i64 ((f : Int) + (L : Int)), .int .i64 (e.id : Int), .bool false] 76))
      | (go_at_call 38; refine (hsp.out _).mono ?_; rintro r w9 ⟨rfl, hB9⟩))
    go_ret2
    exact ⟨rfl, hb5.trans (hB9.mono hb5.size)⟩
set_option maxRecDepth 100000 in
theorem lit_yes (h : Arm w base d vs va es last) {k : Nat} {e : En} (hk : es[k]? = some e) (hg : e.gone = false) (i : Nat) {x : Int} (hi : e.ls[i]? = some x) :
    Calls Try.prog 19 #[.pointer (some ⟨d, 0, none⟩), .int .i64 (e.id : Int), .int .i64 (i : Int)] w fun r w' => r = .returned (.tuple #[.int .i64 x, .int .i64 0]) ∧ Below w.heap.size w w' := by
  have he := entry_yes h hk hg
  have hol := off_le es k e hk
  have hheld := h.ok.held
  have hus := h.ok.us
  have hP := h.prt
  have hil := (List.getElem?_eq_some_iff.1 hi).1
  have hfx := flat_at es k i e hk hil
  rw [hi] at hfx
  obtain ⟨As, cs, rfl⟩ := own_form hP.hs
  obtain ⟨f, hf⟩ : ∃ f, f = off es k := ⟨_, rfl⟩
  obtain ⟨L, hL⟩ : ∃ L, L = e.ls.length := ⟨_, rfl⟩
  obtain ⟨g, cap, hv, _, hgl⟩ := hP.hs.form (by omega)
  have hA : As = some ⟨g, 0, none⟩ := by injection hv
  subst hA
  have hqx : w.cell? ⟨g, f + i, none⟩ = some (.int .i64 x) := by
    have := hP.hs.cellAt (g := g) (f + i) (by omega)
    rw [this, lits, List.getElem?_map, hf, hfx]
    rfl
  rw [← hf, ← hL] at he
  rw [← hf, ← hL] at hol
  rw [← hL] at hil
  obtain ⟨ns, hns⟩ : ∃ ns, ns = (flat es).length := ⟨_, rfl⟩
  rw [← hns] at hol hheld hP
  have e3 : (f : Int) + (L : Int) - (f : Int) = L := by omega
  have hsp := spanlen_any (f : Int) ((f : Int) + (L : Int)) (by omega) (by omega)
  rw [e3] at hsp
  replace he := Lib.hid he
  replace hsp := Lib.hid hsp
  replace hP := Lib.hid hP
  clear h hk e3 hi hf hL hns hfx hv
  have h1 : ¬ (i : Int) < 0 := by omega
  have h2 : ¬ (L : Int) ≤ (i : Int) := by omega
  have h3 : decide ((L : Int) ≤ (i : Int)) = false := by simp; omega
  have h4 : (f : Int) + (i : Int) < (ns : Int) := by omega
  have h5 : 0 ≤ (f : Int) + (i : Int) := by omega
  have h7 : ((f : Int) + (i : Int)).toNat = f + i := by omega
  go_enter Try.func19, Try.ntmps19
  go_upto_region 6 with (first
    | (go_at_call 40; refine he.out.mono ?_; rintro e w' ⟨rfl, hB⟩; have hb5 := hB.alloc hB.size (.cells #[.int .i64 (f : Int), .int .i64 ((f : Int) + (L : Int)), .int .i64 (e.id : Int), .bool false] 76); have hbe := Blk.new w' 76 #[.int .i64 (f : Int), .int .i64 ((f : Int) + (L : Int)), .int .i64 (e.id : Int), .bool false])
    | (go_at_call 38; refine (hsp.out _).mono ?_; rintro r w9 ⟨rfl, hB9⟩))
  have hB0 := hb5.trans (hB9.mono hb5.size)
  have hbe2 := hbe.below hB9 (by simp)
  have c0 := (hP.out.new hB0).c0
  have q0 := hbe2.cell 0
  have qx := (hB0.cell (p := ⟨g, f + i, none⟩) hgl).trans hqx
  simp only [List.getElem?_toArray, List.getElem?_cons_zero, List.getElem?_cons_succ] at q0
  clear hqx hbe hbe2 hb5 hB9
  go_quiet (fail)
  go_wp2
  go_ret2
  exact ⟨rfl, below_drewN_ hB0 _⟩
end
/-- What is asked of a number, answered. -/
def getL (al : List (Nat × List Int)) (id : Int) : List Int := (look al id).getD []
def getE (al : List (Nat × List Int)) (id : Int) : Int := if look al id = none then 30 else 0
def litV (al : List (Nat × List Int)) (id i : Int) : Int := if 0 ≤ i then ((getL al id)[i.toNat]?).getD 0 else 0
def litE (al : List (Nat × List Int)) (id i : Int) : Int := if look al id = none then 30 else if 0 ≤ i ∧ i < (getL al id).length then 0 else 2
def GotA (w : World) (l : List Int) (x : Int) (r : Ending) (w' : World) : Prop := ∃ A c, r = .returned (.tuple #[.slice A l.length c, .int .i64 x]) ∧ w'.ownsRow w.heap.size 30 1 (.slice A l.length c) l.length (lits l) ∧ Below w.heap.size w w'
section
variable {w : World} {base d : Nat} {fp : List Nat} {al : List (Nat × List Int)} {last : Nat}
theorem get_arena (h : Arena w base d fp al last) (id : Int) (hb : -9223372036854775808 ≤ id ∧ id ≤ 9223372036854775807) :
    Calls Try.prog 17 #[.pointer (some ⟨d, 0, none⟩), .int .i64 id] w (GotA w (getL al id) (getE al id)) := by
  obtain ⟨vs, va, es, h, rfl, rfl⟩ := h
  cases hl : look (als es) id with
  | none =>
    rw [show getL (als es) id = [] by unfold getL; rw [hl]; rfl, show getE (als es) id = 30 from if_pos hl]
    exact (get_no h id hl hb).mono fun e w' ⟨he, hB⟩ => ⟨none, 0, he, World.ownsRow_nil _ _ _ _, hB⟩
  | some l =>
    rw [show getL (als es) id = l by unfold getL; rw [hl]; rfl, show getE (als es) id = 0 from if_neg (by rw [hl]; simp)]
    obtain ⟨k, e, hk, rfl, hg, rfl⟩ := look_ent h.ok.so hl
    exact get_yes h hk hg
theorem len_arena (h : Arena w base d fp al last) (id : Int) (hb : -9223372036854775808 ≤ id ∧ id ≤ 9223372036854775807) :
    Calls Try.prog 18 #[.pointer (some ⟨d, 0, none⟩), .int .i64 id] w fun r w' => r = .returned (.tuple #[.int .i64 ((getL al id).length : Int), .int .i64 (getE al id)]) ∧ Below w.heap.size w w' := by
  obtain ⟨vs, va, es, h, rfl, rfl⟩ := h
  cases hl : look (als es) id with
  | none =>
    rw [show getL (als es) id = [] by unfold getL; rw [hl]; rfl, show getE (als es) id = 30 from if_pos hl]
    exact len_no h id hl hb
  | some l =>
    rw [show getL (als es) id = l by unfold getL; rw [hl]; rfl, show getE (als es) id = 0 from if_neg (by rw [hl]; simp)]
    obtain ⟨k, e, hk, rfl, hg, rfl⟩ := look_ent h.ok.so hl
    exact len_yes h hk hg
theorem lit_arena (h : Arena w base d fp al last) (id i : Int) (hb : -9223372036854775808 ≤ id ∧ id ≤ 9223372036854775807) :
    Calls Try.prog 19 #[.pointer (some ⟨d, 0, none⟩), .int .i64 id, .int .i64 i] w fun r w' => r = .returned (.tuple #[.int .i64 (litV al id i), .int .i64 (litE al id i)]) ∧ Below w.heap.size w w' := by
  obtain ⟨vs, va, es, h, rfl, rfl⟩ := h
  cases hl : look (als es) id with
  | none =>
    have h1 : getL (als es) id = [] := by unfold getL; rw [hl]; rfl
    rw [show litV (als es) id i = 0 by unfold litV; rw [h1]; split <;> simp, show litE (als es) id i = 30 from if_pos hl]
    exact lit_no h id i hl hb
  | some l =>
    have h1 : getL (als es) id = l := by unfold getL; rw [hl]; rfl
    obtain ⟨k, e, hk, rfl, hg, rfl⟩ := look_ent h.ok.so hl
    by_cases hi : 0 ≤ i ∧ i < (e.ls.length : Int)
    · obtain ⟨j, rfl⟩ := Int.eq_ofNat_of_zero_le hi.1
      obtain ⟨x, hx⟩ : ∃ x, e.ls[j]? = some x := ⟨_, List.getElem?_eq_getElem (by omega)⟩
      rw [show litV (als es) e.id j = x by unfold litV; rw [if_pos hi.1, h1, Int.toNat_natCast, hx]; rfl, show litE (als es) e.id j = 0 by unfold litE; rw [if_neg (by rw [hl]; simp), h1, if_pos hi]]
      exact lit_yes h hk hg j hx
    · rw [show litV (als es) e.id i = 0 by
        unfold litV
        split
        · rw [h1, List.getElem?_eq_none (by omega)]; rfl
        · rfl, show litE (als es) e.id i = 2 by unfold litE; rw [if_neg (by rw [hl]; simp), h1, if_neg hi]]
      exact lit_out h hk hg i (by omega)
theorem has_arena (h : Arena w base d fp al last) (id : Int) (hb : -9223372036854775808 ≤ id ∧ id ≤ 9223372036854775807) : Calls Try.prog 21 #[.pointer (some ⟨d, 0, none⟩), .int .i64 id] w fun r w' => r = .returned (.bool (hasA al id)) ∧ Below w.heap.size w w' := by
  obtain ⟨vs, va, es, h, rfl, rfl⟩ := h
  exact has_ok h id hb
theorem used_arena (h : Arena w base d fp al last) : Calls Try.prog 16 #[.pointer (some ⟨d, 0, none⟩)] w fun e w' => e = .returned (.int .i64 (usedL al : Int)) ∧ w = w' := by
  obtain ⟨vs, va, es, h, rfl, rfl⟩ := h
  exact used_ok h
theorem count_arena (h : Arena w base d fp al last) : Calls Try.prog 22 #[.pointer (some ⟨d, 0, none⟩)] w fun e w' => e = .returned (.int .i64 (al.length : Int)) ∧ w = w' := by
  obtain ⟨vs, va, es, h, rfl, rfl⟩ := h
  exact count_ok h
theorem last_arena (h : Arena w base d fp al last) : Calls Try.prog 24 #[.pointer (some ⟨d, 0, none⟩)] w fun e w' => e = .returned (.int .i64 (last : Int)) ∧ w = w' := by
  obtain ⟨vs, va, es, h, rfl, rfl⟩ := h
  exact last_ok h
/-- What Held answers. -/
def HeldA (w : World) (al : List (Nat × List Int)) (e : Ending) (w' : World) : Prop := ∃ n : Nat, e = .returned (.int .i64 (n : Int)) ∧ w = w' ∧ usedL al ≤ n ∧ n ≤ 2 * usedL al + 64
theorem held_arena (h : Arena w base d fp al last) : Calls Try.prog 23 #[.pointer (some ⟨d, 0, none⟩)] w (HeldA w al) := by
  obtain ⟨vs, va, es, h, rfl, rfl⟩ := h
  refine (held_ok h).mono fun e w' ⟨he, hw⟩ => ⟨_, he, hw, ?_, h.ok.held⟩
  rw [usedL_kept]
  exact kept_flat es
end
end Go.Proofs.Ytlcfgpkokaiogaa
