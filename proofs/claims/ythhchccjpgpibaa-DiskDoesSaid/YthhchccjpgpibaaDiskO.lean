/- Disks: the arguments opened. -/
import Derived.Test.YthhchccjpgpibaaDiskL
import Derived.Deep.Slices
import Derived.Deep.Fields
import Derived.ChangeSame
import Derived.OpenShut
import Derived.ChangeShapes
namespace Go.Proofs.Ythhchccjpgpibaa
open Go Go.RowKit Go.Shelf
open Go.ChangeShapes Go.WideShapes Go.Deep
set_option linter.unusedVariables false
set_option linter.unusedSimpArgs false
section
variable {H : Type} {enc : TypeId × Value → H} {P : Program} {w : World} {base : Nat} {spare : Nat → Bool} {held : Bool}
theorem open_slice_fields {t e : TypeId} {fs : Array Field} {fuel : Nat} {cs : List Value} {x : DataW H × List MemPlace} (ht : P.underlying t = some (.slice e)) (he : P.underlying e = some (.struct fs))
    (hone : oneCellFields P fs = true) (hC : P.cellsOf e = fs.size) (h : DataW.trod enc P w base spare held fuel t cs = some x) :
    (cs = [.slice none 0 0] ∧ x = (.nil, [])) ∨
    ∃ (a : Addr) (len cap m : Nat) (D : Nat → DataW H) (Pl : Nat → List MemPlace), cs = [.slice (some a) len cap] ∧ base ≤ a.block ∧ len ≤ cap ∧ cap ≤ maxLen ∧ m = (if spare a.block then cap else len) ∧
      x = (.slice ((List.range len).map D) ((List.range (m - len)).map fun j => D (len + j)), MemPlace.row a (m * fs.size) ++ (List.range m).flatMap Pl) ∧
      ∀ i, i < m → ∃ (ys : List (DataW H × List MemPlace)) (n : Nat), D i = .agg (ys.map (·.1)) ∧ Pl i = ys.flatMap (·.2) ∧ ys.length = fs.size ∧
        ∀ (j : Nat) (f : Field), fs[j]? = some f → ∃ (v : Value) (y : DataW H × List MemPlace), w.cell? (a.add (i * fs.size + j)) = some v ∧ ys[j]? = some y ∧ DataW.trod enc P w base spare held n f.type [v] = some y := by
  rcases open_slice ht h with h0 | ⟨a, len, cap, m, n, D, Pl, hcs, hb, hl, hm, hmm, hx, hi⟩
  · exact .inl h0
  · refine .inr ⟨a, len, cap, m, D, Pl, hcs, hb, hl, hm, hmm, by rw [hC] at hx; exact hx, fun i him => ?_⟩
    obtain ⟨cs', hc, ht'⟩ := hi i him
    rw [hC] at hc
    obtain ⟨ys, n', hn', hy, hlen, hyl, hf⟩ := DataW.trod_struct he ht'
    obtain ⟨_, hcl, hat⟩ := World.cells?_some hc
    simp only [Prod.mk.injEq] at hy
    refine ⟨ys, n', hy.1, hy.2, hyl, fun j f hj => ?_⟩
    obtain ⟨ho, hk⟩ := hone_of hone j f hj
    have hjl : j < fs.size := (Array.getElem?_eq_some_iff.1 hj).1
    have hcell := hat j hjl
    have hv : cs'[j]? = some (cs'[j]'(by omega)) := List.getElem?_eq_getElem (by omega)
    have h1 := hf j f hj
    rw [ho, hk] at h1
    have hone' : (cs'.drop j).take 1 = [cs'[j]'(by omega)] := by
      rw [List.drop_eq_getElem_cons (by omega)]
      rfl
    rw [hone'] at h1
    have hys : ys[j]? = some (ys[j]'(by omega)) := List.getElem?_eq_getElem (by omega)
    refine ⟨_, _, ?_, hys, h1.trans hys⟩
    rw [← Go.Deep.add_add, hcell, hv]
end

theorem reads_of_acts {W : World} {B len : Nat} {a : Addr} {l : List ActV} (hl : l.length = len) (hb : 0 < len → a.block < B)
    (hc : ∀ (i : Nat) (x : ActV), l[i]? = some x → W.cell? (a.add (i * 3)) = some (.int .u8 x.1) ∧ W.cell? (a.add (i * 3 + 1)) = some (.int .i64 x.2.1) ∧ W.cell? (a.add (i * 3 + 2)) = some (.int .u32 x.2.2)) : Reads W B 3 (some a) len (encAs l) := by
  refine ⟨by rw [encAs_len, hl], fun hn => ⟨a, rfl, hb hn, fun j u hu => ?_⟩⟩
  have hj : j < len * 3 := by
    have := (List.getElem?_eq_some_iff.1 hu).1
    rw [encAs_len] at this; omega
  have hx : l[j / 3]? = some (l[j / 3]'(by omega)) := List.getElem?_eq_getElem (by omega)
  generalize l[j / 3]'(by omega) = x at hx
  obtain ⟨h0, h1, h2⟩ := hc _ _ hx
  have he := encAs_at l (j / 3) (j % 3) x hx (by omega)
  rw [show j / 3 * 3 + j % 3 = j by omega, hu] at he
  have hd : j % 3 = 0 ∨ j % 3 = 1 ∨ j % 3 = 2 := by omega
  rcases hd with hd | hd | hd
  · rw [hd] at he; simp [encA] at he; rw [he, show a.add j = a.add (j / 3 * 3) by congr 1; omega]; exact h0
  · rw [hd] at he; simp [encA] at he; rw [he, show a.add j = a.add (j / 3 * 3 + 1) by congr 1; omega]; exact h1
  · rw [hd] at he; simp [encA] at he; rw [he, show a.add j = a.add (j / 3 * 3 + 2) by congr 1; omega]; exact h2
section
variable {H : Type} {enc : TypeId × Value → H} {W : World}
theorem acts_open {base : Nat} {v : Value} {d : DataW H} {p : List MemPlace} (h : DataW.Trod enc Try.prog W 0 (fun _ => true) true 23 v d p) (k : Value.okWide Try.prog W .any base 23 v) (hlt : ∀ x ∈ p, x.block < W.heap.size) :
    ∃ (A : Option Addr) (n c : Nat) (l : List ActV), v = .slice A n c ∧ Reads W W.heap.size 3 A n (encAs l) ∧ n ≤ c ∧ c ≤ 9223372036854775807 ∧ ∀ a ∈ l, ActV.Ok a := by
  obtain ⟨A0, n0, c0, rfl⟩ := okWide_slice Try.underlying23 k
  obtain ⟨fuel, hf⟩ := h
  rcases open_slice_fields Try.underlying23 Try.underlying31 (by kernel_rfl) (by kernel_rfl) hf with ⟨h1, _⟩ | ⟨a, len, cap, m, D, Pl, hcs, _, hlc, hcm, hm, hx, hel⟩
  · simp [Value.cells] at h1
    obtain ⟨rfl, rfl, rfl⟩ := h1
    exact ⟨none, 0, 0, [], rfl, ⟨by simp [encAs], fun h => absurd h (by omega)⟩, Nat.le_refl _, by omega, by simp⟩
  · simp [Value.cells] at hcs
    obtain ⟨rfl, rfl, rfl⟩ := hcs
    have hel2 : ∀ i, ∃ x : ActV, i < n0 → ActV.Ok x ∧ W.cell? (a.add (i * 3)) = some (.int .u8 x.1) ∧ W.cell? (a.add (i * 3 + 1)) = some (.int .i64 x.2.1) ∧ W.cell? (a.add (i * 3 + 2)) = some (.int .u32 x.2.2) := by
      intro i
      by_cases hi : i < n0
      · obtain ⟨ys, n, _, _, _, hj⟩ := hel i (by simp at hm; omega)
        obtain ⟨v0, y0, q0, _, t0⟩ := hj 0 _ rfl
        obtain ⟨v1, y1, q1, _, t1⟩ := hj 1 _ rfl
        obtain ⟨v2, y2, q2, _, t2⟩ := hj 2 _ rfl
        obtain ⟨x0, e0, _, w0⟩ := DataW.trod_int Try.underlying5 t0
        obtain ⟨x1, e1, _, w1⟩ := DataW.trod_int Try.underlying3 t1
        obtain ⟨x2, e2, _, w2⟩ := DataW.trod_int Try.underlying29 t2
        simp at e0 e1 e2
        subst e0; subst e1; subst e2
        exact ⟨(x0, x1, x2), fun _ => ⟨⟨(bounds_u8 w0).1, (bounds_u8 w0).2, (bounds_i64 w1).1, (bounds_i64 w1).2, (bounds_u32 w2).1, (bounds_u32 w2).2⟩, q0, q1, q2⟩⟩
      · exact ⟨(0, 0, 0), fun h => absurd h hi⟩
    obtain ⟨f, hfs⟩ : ∃ f : Nat → ActV, ∀ i, i < n0 → ActV.Ok (f i) ∧ W.cell? (a.add (i * 3)) = some (.int .u8 (f i).1) ∧ W.cell? (a.add (i * 3 + 1)) = some (.int .i64 (f i).2.1) ∧ W.cell? (a.add (i * 3 + 2)) = some (.int .u32 (f i).2.2) :=
      ⟨fun i => Classical.choose (hel2 i), fun i => Classical.choose_spec (hel2 i)⟩
    have hml : maxLen ≤ 9223372036854775807 := by decide
    refine ⟨some a, n0, c0, (List.range n0).map f, rfl, reads_of_acts (by simp) (fun hn => ?_) (fun i x hi => ?_), hlc, Nat.le_trans hcm hml, fun x hx' => ?_⟩
    · have hp := (Prod.mk.inj hx).2
      have := hlt (.cell a.block (a.off + 0)) (by
        rw [hp]
        refine List.mem_append_left _ (MemPlace.mem_row.2 ⟨0, ?_, rfl⟩)
        simp at hm ⊢
        omega)
      exact this
    · have hi' : i < n0 := by have := (List.getElem?_eq_some_iff.1 hi).1; simpa using this
      rw [List.getElem?_map, List.getElem?_range hi'] at hi
      simp at hi
      subst hi
      exact (hfs i hi').2
    · obtain ⟨i, hi, rfl⟩ := List.mem_map.1 hx'
      exact (hfs i (List.mem_range.1 hi)).1
theorem first_open {base : Nat} {v : Value} {d : DataW H} {p : List MemPlace} (h : DataW.Trod enc Try.prog W 0 (fun _ => true) true 22 v d p) (k : Value.okWide Try.prog W .any base 22 v) :
    ∃ f0 f1 f2 : Int, v = .agg #[.int .u8 f0, .int .u8 f1, .int .u8 f2] ∧ (0 ≤ f0 ∧ f0 ≤ 255) ∧ (0 ≤ f1 ∧ f1 ≤ 255) ∧ (0 ≤ f2 ∧ f2 ≤ 255) := by
  have hu := Try.underlying22
  simp only [Value.okWide, hu] at k
  obtain ⟨cs, rfl, hsz, _⟩ := k
  have hc3 : Try.prog.cellsOf 22 = 3 := by kernel_rfl
  have hc1 : Try.prog.cellsOf 5 = 1 := by kernel_rfl
  obtain ⟨fuel, hf⟩ := h
  obtain ⟨xs, m, _, _, _, hlen, hat⟩ := DataW.trod_array hu hf
  rw [hc1] at hat
  obtain ⟨l⟩ := cs
  match l, hsz.trans hc3 with
  | [x0, x1, x2], _ =>
    have g : ∀ i (hi : i < 3), xs[i]? = some (xs[i]'(by omega)) := fun i hi => List.getElem?_eq_getElem (by omega)
    have t0 := (hat 0 (by omega)).trans (g 0 (by omega))
    have t1 := (hat 1 (by omega)).trans (g 1 (by omega))
    have t2 := (hat 2 (by omega)).trans (g 2 (by omega))
    obtain ⟨n0, e0, _, w0⟩ := DataW.trod_int Try.underlying5 t0
    obtain ⟨n1, e1, _, w1⟩ := DataW.trod_int Try.underlying5 t1
    obtain ⟨n2, e2, _, w2⟩ := DataW.trod_int Try.underlying5 t2
    simp [Value.cells] at e0 e1 e2
    subst e0; subst e1; subst e2
    exact ⟨n0, n1, n2, rfl, bounds_u8 w0, bounds_u8 w1, bounds_u8 w2⟩
end
end Go.Proofs.Ythhchccjpgpibaa
