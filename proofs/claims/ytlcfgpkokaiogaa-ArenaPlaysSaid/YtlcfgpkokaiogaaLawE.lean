/- Arenas: law 3, its arguments opened. -/
import Derived.Test.YtlcfgpkokaiogaaRfH
import Derived.Test.YtlcfgpkokaiogaaOpen
import Derived.Deep.Slices
import Derived.Deep.Fields
import Derived.ChangeSame
import Derived.OpenShut
import Derived.ChangeShapes
import Derived.SizedLaws
namespace Go.Proofs.Ytlcfgpkokaiogaa
open Go Go.RowKit Go.Shelf
open Go.ChangeShapes Go.WideShapes Go.Deep
set_option linter.unusedVariables false
set_option linter.unusedSimpArgs false
section
variable {H : Type} {enc : TypeId × Value → H} {P : Program} {w : World} {base : Nat} {spare : Nat → Bool} {held : Bool}
theorem open_slice_fields {t e : TypeId} {fs : Array Field} {fuel : Nat} {cs : List Value} {x : DataW H × List MemPlace} (ht : P.underlying t = some (.slice e)) (he : P.underlying e = some (.struct fs))
    (hone : oneCellFields P fs = true) (hC : P.cellsOf e = fs.size) (h : DataW.trod enc P w base spare held fuel t cs = some x) :
    (cs = [.slice none 0 0] ∧ x = (.nil, [])) ∨
    ∃ (a : Addr) (len cap m : Nat) (D : Nat → DataW H) (Pl : Nat → List MemPlace), cs = [.slice (some a) len cap] ∧ base ≤ a.block ∧ len ≤ cap ∧ cap ≤ maxLen ∧ m = (if spare a.block then cap else len) ∧
      x = (.slice ((List.range len).map D) ((List.range (m - len)).map fun j => D (len + j)), MemPlace.row a (m * fs.size) ++ (List.range m).flatMap Pl) ∧
      ∀ i, i < m → ∃ (ys : List (DataW H × List MemPlace)) (n : Nat), D i = .agg (ys.map (·.1)) ∧ Pl i = ys.flatMap (·.2) ∧ ys.length = fs.size ∧
        ∀ (j : Nat) (f : Field), fs[j]? = some f → ∃ (v : Value) (y : DataW H × List MemPlace), w.cell? (a.add (i * fs.size + j)) = some v ∧ ys[j]? = some y ∧ DataW.trod enc P w base spare held n f.type [v] = some y := by
  rcases open_slice ht h with h0 | ⟨a, len, cap, m, n, D, Pl, hcs, hb, hl, hm, hmm, hx, hi⟩
  · exact .inl h0
  · refine .inr ⟨a, len, cap, m, D, Pl, hcs, hb, hl, hm, hmm, by rw [hC] at hx; exact hx, fun i him => ?_⟩
    obtain ⟨cs', hc, ht'⟩ := hi i him
    rw [hC] at hc
    obtain ⟨ys, n', hn', hy, hlen, hyl, hf⟩ := DataW.trod_struct he ht'
    obtain ⟨_, hcl, hat⟩ := World.cells?_some hc
    simp only [Prod.mk.injEq] at hy
    refine ⟨ys, n', hy.1, hy.2, hyl, fun j f hj => ?_⟩
    obtain ⟨ho, hk⟩ := hone_of hone j f hj
    have hjl : j < fs.size := (Array.getElem?_eq_some_iff.1 hj).1
    have hcell := hat j hjl
    have hv : cs'[j]? = some (cs'[j]'(by omega)) := List.getElem?_eq_getElem (by omega)
    have h1 := hf j f hj
    rw [ho, hk] at h1
    have hone' : (cs'.drop j).take 1 = [cs'[j]'(by omega)] := by
      rw [List.drop_eq_getElem_cons (by omega)]
      rfl
    rw [hone'] at h1
    have hys : ys[j]? = some (ys[j]'(by omega)) := List.getElem?_eq_getElem (by omega)
    refine ⟨_, _, ?_, hys, h1.trans hys⟩
    rw [← Go.Deep.add_add, hcell, hv]
end

theorem reads_of_pacts {W : World} {B len : Nat} {a : Addr} {l : List PA} (hl : l.length = len) (hb : 0 < len → a.block < B)
    (hc : ∀ (i : Nat) (x : PA), l[i]? = some x → W.cell? (a.add (i * 3)) = some (.int .u8 x.kd) ∧ W.cell? (a.add (i * 3 + 1)) = some (.int .i64 x.id) ∧ W.cell? (a.add (i * 3 + 2)) = some (.slice x.A x.ls.length x.c)) : Reads W B 3 (some a) len (encPs l) := by
  refine ⟨by rw [encPs_len, hl], fun hn => ⟨a, rfl, hb hn, fun j u hu => ?_⟩⟩
  have hj : j < len * 3 := by
    have := (List.getElem?_eq_some_iff.1 hu).1
    rw [encPs_len] at this; omega
  have hx : l[j / 3]? = some (l[j / 3]'(by omega)) := List.getElem?_eq_getElem (by omega)
  generalize l[j / 3]'(by omega) = x at hx
  obtain ⟨h0, h1, h2⟩ := hc _ _ hx
  have he := encPs_at l (j / 3) (j % 3) x hx (by omega)
  rw [show j / 3 * 3 + j % 3 = j by omega, hu] at he
  have hd : j % 3 = 0 ∨ j % 3 = 1 ∨ j % 3 = 2 := by omega
  rcases hd with hd | hd | hd
  · rw [hd] at he; simp [encPA] at he; rw [he, show a.add j = a.add (j / 3 * 3) by congr 1; omega]; exact h0
  · rw [hd] at he; simp [encPA] at he; rw [he, show a.add j = a.add (j / 3 * 3 + 1) by congr 1; omega]; exact h1
  · rw [hd] at he; simp [encPA] at he; rw [he, show a.add j = a.add (j / 3 * 3 + 2) by congr 1; omega]; exact h2
theorem mem_weightsAll {H : Type} {P : Program} {e : TypeId} {m : Nat} : ∀ {l : List (DataW H)} {d : DataW H}, d ∈ l → m ∈ d.weights P e → m ∈ DataW.weightsAll P e l
  | y :: l, d, h, hm => by
    simp only [DataW.weightsAll, List.mem_append]
    rcases List.mem_cons.1 h with rfl | h
    · exact .inl hm
    · exact .inr (mem_weightsAll h hm)
section
variable {H : Type} {enc : TypeId × Value → H} {W : World}
theorem pacts_open {base : Nat} {v : Value} {d : DataW H} {p : List MemPlace} (h : DataW.Trod enc Try.prog W 0 (fun _ => true) true 22 v d p) (k : Value.okWide Try.prog W .any base 22 v) (hlt : ∀ x ∈ p, x.block < W.heap.size) (hsz : ∀ m ∈ d.weights Try.prog 22, m ≤ reachBytes) :
    ∃ (A : Option Addr) (n c : Nat) (l : List PA), v = .slice A n c ∧ Reads W W.heap.size 3 A n (encPs l) ∧ n ≤ c ∧ c ≤ 9223372036854775807 ∧ ∀ a ∈ l, PAW W W.heap.size a := by
  obtain ⟨A0, n0, c0, rfl⟩ := okWide_slice Try.underlying22 k
  obtain ⟨fuel, hf⟩ := h
  have hml : maxLen ≤ 9223372036854775807 := by decide
  rcases open_slice_fields Try.underlying22 Try.underlying27 (by kernel_rfl) (by kernel_rfl) hf with ⟨h1, _⟩ | ⟨a, len, cap, m, D, Pl, hcs, _, hlc, hcm, hm, hx, hel⟩
  · simp [Value.cells] at h1
    obtain ⟨rfl, rfl, rfl⟩ := h1
    exact ⟨none, 0, 0, [], rfl, ⟨by simp [encPs], fun h => absurd h (by omega)⟩, Nat.le_refl _, by omega, by simp⟩
  · simp [Value.cells] at hcs
    obtain ⟨rfl, rfl, rfl⟩ := hcs
    simp only [if_true] at hm
    have hd := (Prod.mk.inj hx).1
    have hp := (Prod.mk.inj hx).2
    have hel2 : ∀ i, ∃ x : PA, i < n0 → PAW W W.heap.size x ∧ W.cell? (a.add (i * 3)) = some (.int .u8 x.kd) ∧ W.cell? (a.add (i * 3 + 1)) = some (.int .i64 x.id) ∧ W.cell? (a.add (i * 3 + 2)) = some (.slice x.A x.ls.length x.c) := by
      intro i
      by_cases hi : i < n0
      · obtain ⟨ys, n, hD, hPl, hyl, hj⟩ := hel i (by omega)
        obtain ⟨v0, y0, q0, _, t0⟩ := hj 0 _ rfl
        obtain ⟨v1, y1, q1, _, t1⟩ := hj 1 _ rfl
        obtain ⟨v2, y2, q2, hy2, t2⟩ := hj 2 _ rfl
        obtain ⟨x0, e0, _, w0⟩ := DataW.trod_int Try.underlying5 t0
        obtain ⟨x1, e1, _, w1⟩ := DataW.trod_int Try.underlying3 t1
        simp at e0 e1
        subst e0; subst e1
        rcases open_ints Try.underlying25 Try.underlying3 (by kernel_rfl) t2 with ⟨h1, _⟩ | ⟨a', len', cap', zs, hcs', _, hl', hm', hz, hx', hat, hwf⟩
        · simp at h1
          subst h1
          exact ⟨⟨x0, x1, none, 0, []⟩, fun _ => ⟨⟨Reads.none_, ⟨by simp, by show 0 ≤ _; omega⟩, bounds_u8 w0, bounds_i64 w1, by simp⟩, q0, q1, q2⟩⟩
        · simp at hcs'
          subst hcs'
          simp only [if_true] at hz
          have hlen : (zs.take len').length = len' := by rw [List.length_take]; omega
          have hcap : cap' * 8 ≤ reachBytes := by
            refine hsz _ ?_
            rw [hd]
            simp only [DataW.weights, Try.underlying22]
            refine List.mem_cons_of_mem _ (List.mem_append_left _ (mem_weightsAll (d := D i) (List.mem_map.2 ⟨i, List.mem_range.2 hi, rfl⟩) ?_))
            rw [hD]
            simp only [DataW.weights, Try.underlying27]
            refine DataW.weights_mem_each (j := 2) (t := 25) (d := y2.1) rfl (by rw [List.getElem?_map, hy2]; rfl) _ ?_
            rw [(show y2.1 = _ from (congrArg Prod.fst hx'))]
            simp only [DataW.weights, Try.underlying25]
            refine List.mem_cons.2 (.inl ?_)
            have hb8 : Try.prog.bytesOf 3 = 8 := by kernel_rfl
            rw [hb8]
            simp [Go.ChangeShapes.lits, lits, List.length_take, List.length_drop]
            omega
          have hrb : reachBytes < 2 ^ 47 := reachBytes_lt
          refine ⟨⟨x0, x1, some a', cap', zs.take len'⟩, fun _ => ⟨⟨?_, by rw [hlen]; exact ⟨hl', Nat.le_trans hm' hml⟩, bounds_u8 w0, bounds_i64 w1, by rw [hlen]; omega⟩, q0, q1, by rw [hlen]; exact q2⟩⟩
          rw [hlen]
          refine ⟨by simp [lits]; omega, fun hn => ⟨a', rfl, ?_, fun j u hu => ?_⟩⟩
          · refine hlt (.cell a'.block (a'.off + 0)) ?_
            rw [hp]
            refine List.mem_append_right _ (List.mem_flatMap.2 ⟨i, List.mem_range.2 (by omega), ?_⟩)
            rw [hPl]
            refine List.mem_flatMap.2 ⟨y2, List.mem_of_getElem? hy2, ?_⟩
            rw [(show y2.2 = _ from (congrArg Prod.snd hx'))]
            exact MemPlace.mem_row.2 ⟨0, by omega, rfl⟩
          · rw [lits, List.getElem?_map, List.getElem?_take] at hu
            split at hu
            · rename_i hjl
              rw [hat j (by omega)]
              rw [List.getElem?_eq_getElem (by omega)] at hu
              simp at hu
              rw [← hu, List.getD_eq_getElem?_getD, List.getElem?_eq_getElem (by omega)]
              rfl
            · cases hu
      · exact ⟨⟨0, 0, none, 0, []⟩, fun h => absurd h hi⟩
    obtain ⟨f, hfs⟩ : ∃ f : Nat → PA, ∀ i, i < n0 → PAW W W.heap.size (f i) ∧ W.cell? (a.add (i * 3)) = some (.int .u8 (f i).kd) ∧ W.cell? (a.add (i * 3 + 1)) = some (.int .i64 (f i).id) ∧ W.cell? (a.add (i * 3 + 2)) = some (.slice (f i).A (f i).ls.length (f i).c) :=
      ⟨fun i => Classical.choose (hel2 i), fun i => Classical.choose_spec (hel2 i)⟩
    refine ⟨some a, n0, c0, (List.range n0).map f, rfl, reads_of_pacts (by simp) (fun hn => ?_) (fun i x hi => ?_), hlc, Nat.le_trans hcm hml, fun x hx' => ?_⟩
    · have := hlt (.cell a.block (a.off + 0)) (by
        rw [hp]
        refine List.mem_append_left _ (MemPlace.mem_row.2 ⟨0, ?_, rfl⟩)
        simp
        omega)
      exact this
    · have hi' : i < n0 := by have := (List.getElem?_eq_some_iff.1 hi).1; simpa using this
      rw [List.getElem?_map, List.getElem?_range hi'] at hi
      simp at hi
      subst hi
      exact (hfs i hi').2
    · obtain ⟨i, hi, rfl⟩ := List.mem_map.1 hx'
      exact (hfs i (List.mem_range.1 hi)).1
theorem plays_open {base : Nat} {v0 : Value} {d0 : DataW H} {p0 : List MemPlace} (h0 : DataW.Trod enc Try.prog W 0 (fun _ => true) true 22 v0 d0 p0) (k0 : Value.okWide Try.prog W .any base 22 v0) (hlt : ∀ x ∈ p0, x.block < W.heap.size) (hsz : ∀ m ∈ d0.weights Try.prog 22, m ≤ reachBytes) :
    Calls Try.prog 3 #[v0] W fun e w' => e = .returned (.bool true) ∧ Below W.heap.size W w' := by
  obtain ⟨A, n, c, l, rfl, hr, hn, hc, hok⟩ := pacts_open h0 k0 hlt hsz
  exact law_plays hr hok (Nat.le_refl _) (by omega) hn
end
end Go.Proofs.Ytlcfgpkokaiogaa
