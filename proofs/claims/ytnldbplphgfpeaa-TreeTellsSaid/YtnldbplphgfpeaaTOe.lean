/- Trees handed in: the reading of an argument opened. -/
import Derived.Test.YtnldbplphgfpeaaTWt
import Derived.Deep.Slices
import Derived.SizedLaws
namespace Go.Proofs.Ytnldbplphgfpeaa
open Go Go.RowKit Go.Shelf Go.Deep
set_option maxRecDepth 100000
section
variable {H : Type} {enc : TypeId × Value → H} {w : World}
/-- What is read is of bounded weight. -/
def Wt (t : TypeId) (d : DataW H) : Prop := ∀ k ∈ d.weights Try.prog t, k ≤ reachBytes
theorem wt_all {e : TypeId} {l : List (DataW H)} {d : DataW H} (hd : d ∈ l) {k : Nat} (hk : k ∈ d.weights Try.prog e) : k ∈ DataW.weightsAll Try.prog e l := by
  induction l with
  | nil => cases hd
  | cons a r ih =>
    simp only [DataW.weightsAll, List.mem_append]
    rcases List.mem_cons.1 hd with rfl | hd
    · exact .inl hk
    · exact .inr (ih hd)
/-- A slice of whatever is known of its elements at less fuel. -/
theorem open_rows {α : Type} (cf : α → List Value) (Good : α → Prop) {t e : TypeId} {sz : Nat} (ht : Try.prog.underlying t = some (.slice e)) (hc : Try.prog.cellsOf e = sz) (hby : 0 < Try.prog.bytesOf e) {fuel : Nat} {cs : List Value} {x : DataW H × List MemPlace}
    (h : DataW.trod enc Try.prog w 0 (fun _ => true) true fuel t cs = some x) (hwt : Wt t x.1)
    (ih : ∀ n, n < fuel → ∀ cs x, DataW.trod enc Try.prog w 0 (fun _ => true) true n e cs = some x → Wt e x.1 → ∃ y, cs = cf y ∧ Good y) :
    ∃ (l : Loc) (ys : List α), cs = [.slice l.A ys.length l.c] ∧ RowIn w sz l ys.length (ys.flatMap cf) ∧ ys.length ≤ reachBytes ∧ ∀ y ∈ ys, Good y := by
  have hml : maxLen ≤ 9223372036854775807 := by decide
  rcases DataW.trod_slice ht h with ⟨rfl, _⟩ | ⟨a, len, cap, elems, rest, n, hf, rfl, rfl, _, hlc, hcm, hel, hall, _⟩
  · exact ⟨⟨none, 0⟩, [], rfl, ⟨by simp, Nat.le_refl _, by simp, fun h => absurd h (by simp)⟩, Nat.zero_le _, by simp⟩
  · unfold Wt at hwt
    simp only [DataW.weights, ht, List.length_map] at hwt
    have hle := hwt _ (List.mem_cons_self ..)
    have hlr : len ≤ reachBytes := by
      have h1 : elems.length + rest.length ≤ (elems.length + rest.length) * Try.prog.bytesOf e := Nat.le_mul_of_pos_right _ hby
      omega
    have hk : ∀ i, i < len → ∃ y : α, w.cells? 0 (a.add (i * sz)) sz = some (cf y) ∧ Good y := fun i hi => by
      have hi' := hall i hi
      rw [hc, List.getElem?_eq_getElem (by omega)] at hi'
      obtain ⟨cs', h1, h2⟩ := Option.bind_eq_some_iff.1 hi'
      obtain ⟨y, rfl, hy⟩ := ih n (by omega) _ _ h2 (fun k hk => hwt k (List.mem_cons_of_mem _ (List.mem_append_left _ (wt_all (List.mem_map.2 ⟨_, List.getElem_mem _, rfl⟩) hk))))
      exact ⟨y, h1, hy⟩
    have hex : ∀ m, m ≤ len → ∃ ys : List α, ys.length = m ∧ (∀ y ∈ ys, Good y) ∧ (ys.flatMap cf).length = m * sz ∧ ∀ j u, (ys.flatMap cf)[j]? = some u → w.cell? (a.add j) = some u := fun m => by
      induction m with
      | zero => exact fun _ => ⟨[], rfl, by simp, by simp, by simp⟩
      | succ m ihm =>
        intro hm
        obtain ⟨ys, h1, h2, h3, h4⟩ := ihm (by omega)
        obtain ⟨y, h5, h6⟩ := hk m (by omega)
        obtain ⟨_, h7, h8⟩ := World.cells?_some h5
        refine ⟨ys ++ [y], by simp [h1], fun z hz => ?_, ?_, fun j u hu => ?_⟩
        · rcases List.mem_append.1 hz with hz | hz
          · exact h2 z hz
          · rw [List.mem_singleton] at hz; rw [hz]; exact h6
        · rw [List.flatMap_append, List.length_append, h3]
          simp [h7, Nat.add_mul]
        · rw [List.flatMap_append] at hu
          by_cases hj : j < m * sz
          · rw [List.getElem?_append_left (by omega)] at hu
            exact h4 j u hu
          · rw [List.getElem?_append_right (by omega), h3] at hu
            simp only [List.flatMap_cons, List.flatMap_nil, List.append_nil] at hu
            have hlt : j - m * sz < sz := by
              have := (List.getElem?_eq_some_iff.1 hu).1
              omega
            have := h8 (j - m * sz) hlt
            rw [Go.Deep.add_add, Nat.add_sub_cancel' (by omega), hu] at this
            exact this
    obtain ⟨ys, h1, h2, h3, h4⟩ := hex len (Nat.le_refl _)
    subst h1
    exact ⟨⟨some a, cap⟩, ys, rfl, ⟨h3, hlc, (show cap ≤ 9223372036854775807 by omega), fun _ => ⟨a, rfl, h4⟩⟩, by (show ys.length ≤ reachBytes; omega), h2⟩
/-- One field of a struct that was read. -/
theorem field_at {t : TypeId} {cs : List Value} {xs : List (DataW H × List MemPlace)} {n i m : Nat} {f : Field} {fs : Array Field} (hl : xs.length = fs.size)
    (hf : ∀ (i : Nat) (f : Field), fs[i]? = some f → DataW.trod enc Try.prog w 0 (fun _ => true) true n f.type ((cs.drop f.offset).take (Try.prog.cellsOf f.type)) = xs[i]?) (hwt : ∀ k ∈ DataW.weightsEach Try.prog (fs.toList.map (·.type)) (xs.map (·.1)), k ≤ reachBytes) (hi : fs[i]? = some f) (ht : f.type = t) (hm : Try.prog.cellsOf t = m) :
    ∃ y, DataW.trod enc Try.prog w 0 (fun _ => true) true n t ((cs.drop f.offset).take m) = some y ∧ Wt t y.1 := by
  subst ht
  subst hm
  have h := hf i f hi
  have hlt := (Array.getElem?_eq_some_iff.1 hi).1
  rw [List.getElem?_eq_getElem (by omega)] at h
  exact ⟨_, h, fun k hk => hwt k (DataW.weights_mem_each (j := i) (by simp [hi]) (by rw [List.getElem?_map, List.getElem?_eq_getElem (by omega)]; rfl) k hk)⟩
def HdOk (h : Hd) : Prop := h.short reachBytes ∧ h.rng
def SHdOk (h : SHd) : Prop := h.short reachBytes ∧ h.rng
/-- Names that fit. -/
def GoodE (w : World) (e : Ex Loc) : Prop := e.ok eT w ∧ e.all HdOk
theorem wf_u8 {n : Int} (h : (Lit.int .u8 n).wf = true) : 0 ≤ n ∧ n < 256 := by
  simp [Lit.wf, IntKind.min, IntKind.max, IntKind.bits, IntKind.signed] at h
  omega
theorem wf_u32 {n : Int} (h : (Lit.int .u32 n).wf = true) : 0 ≤ n ∧ n < 4294967296 := by
  simp [Lit.wf, IntKind.min, IntKind.max, IntKind.bits, IntKind.signed] at h
  omega
theorem open_ex : ∀ (fuel : Nat) (cs : List Value) (x : DataW H × List MemPlace), DataW.trod enc Try.prog w 0 (fun _ => true) true fuel 30 cs = some x → Wt 30 x.1 → ∃ e : Ex Loc, cs = e.cells eT ∧ GoodE w e := by
  intro fuel
  induction fuel using Nat.strongRecOn with
  | ind fuel ih =>
  intro cs x h hwt
  obtain ⟨xs, n, rfl, rfl, hlen, hxs, hf⟩ := DataW.trod_struct Try.underlying30 h
  unfold Wt at hwt
  simp only [DataW.weights, Try.underlying30] at hwt
  rw [show Try.prog.cellsOf 30 = 6 by kernel_rfl] at hlen
  match cs, hlen with
  | [c0, c1, c2, c3, c4, c5], _ =>
  obtain ⟨y0, g0, w0⟩ := field_at (i := 0) hxs hf hwt rfl rfl (m := 1) (by kernel_rfl)
  obtain ⟨y1, g1, w1⟩ := field_at (i := 1) hxs hf hwt rfl rfl (m := 1) (by kernel_rfl)
  obtain ⟨y2, g2, w2⟩ := field_at (i := 2) hxs hf hwt rfl rfl (m := 1) (by kernel_rfl)
  obtain ⟨y3, g3, w3⟩ := field_at (i := 3) hxs hf hwt rfl rfl (m := 1) (by kernel_rfl)
  obtain ⟨y4, g4, w4⟩ := field_at (i := 4) hxs hf hwt rfl rfl (m := 1) (by kernel_rfl)
  obtain ⟨y5, g5, w5⟩ := field_at (i := 5) hxs hf hwt rfl rfl (m := 1) (by kernel_rfl)
  obtain ⟨z0, e0, _, r0⟩ := DataW.trod_int (k := .u8) (by kernel_rfl) g0
  obtain ⟨z1, e1, _, r1⟩ := DataW.trod_int (k := .u8) (by kernel_rfl) g1
  obtain ⟨z2, e2, _, r2⟩ := DataW.trod_int (k := .u32) (by kernel_rfl) g2
  obtain ⟨z3, e3, _, _⟩ := DataW.trod_int (k := .i64) (by kernel_rfl) g3
  obtain ⟨z4, e4, hx4, _⟩ := DataW.trod_string (by kernel_rfl) g4
  have hs : z4.size ≤ reachBytes := by
    unfold Wt at w4
    rw [hx4] at w4
    have := w4 _ (List.mem_singleton_self _)
    simpa using this
  obtain ⟨l, ys, e5, hrow, _, hall⟩ := open_rows (Ex.cells eT) (GoodE w) (sz := 6) Try.underlying28 (by kernel_rfl) (by decide +kernel) g5 w5 (fun m hm => ih m (by omega))
  simp at e0 e1 e2 e3 e4 e5
  subst e0 e1 e2 e3 e4 e5
  exact ⟨.mk ⟨z0, z1, z2, z3, z4⟩ l ys, rfl, ⟨hrow, oks_iff.2 fun y hy => (hall y hy).1⟩, ⟨hs, wf_u8 r0, wf_u8 r1, wf_u32 r2⟩, allX_iff.2 fun y hy => (hall y hy).2⟩
def GoodS (w : World) (s : St Loc) : Prop := s.ok eT w ∧ s.all HdOk SHdOk
theorem open_st : ∀ (fuel : Nat) (cs : List Value) (x : DataW H × List MemPlace), DataW.trod enc Try.prog w 0 (fun _ => true) true fuel 51 cs = some x → Wt 51 x.1 → ∃ e : St Loc, cs = e.cells eT ∧ GoodS w e := by
  intro fuel
  induction fuel using Nat.strongRecOn with
  | ind fuel ih =>
  intro cs x h hwt
  obtain ⟨xs, n, rfl, rfl, hlen, hxs, hf⟩ := DataW.trod_struct Try.underlying51 h
  unfold Wt at hwt
  simp only [DataW.weights, Try.underlying51] at hwt
  rw [show Try.prog.cellsOf 51 = 6 by kernel_rfl] at hlen
  match cs, hlen with
  | [c0, c1, c2, c3, c4, c5], _ =>
  obtain ⟨y0, g0, w0⟩ := field_at (i := 0) hxs hf hwt rfl rfl (m := 1) (by kernel_rfl)
  obtain ⟨y1, g1, w1⟩ := field_at (i := 1) hxs hf hwt rfl rfl (m := 1) (by kernel_rfl)
  obtain ⟨y2, g2, w2⟩ := field_at (i := 2) hxs hf hwt rfl rfl (m := 1) (by kernel_rfl)
  obtain ⟨y3, g3, w3⟩ := field_at (i := 3) hxs hf hwt rfl rfl (m := 1) (by kernel_rfl)
  obtain ⟨y4, g4, w4⟩ := field_at (i := 4) hxs hf hwt rfl rfl (m := 1) (by kernel_rfl)
  obtain ⟨y5, g5, w5⟩ := field_at (i := 5) hxs hf hwt rfl rfl (m := 1) (by kernel_rfl)
  obtain ⟨z0, e0, _, r0⟩ := DataW.trod_int (k := .u8) (by kernel_rfl) g0
  obtain ⟨z1, e1, hx1, _⟩ := DataW.trod_string (by kernel_rfl) g1
  have hs : z1.size ≤ reachBytes := by
    unfold Wt at w1
    rw [hx1] at w1
    have := w1 _ (List.mem_singleton_self _)
    simpa using this
  obtain ⟨l2, ys2, e2, hr2, _, ha2⟩ := open_rows (Ex.cells eT) (GoodE w) (sz := 6) Try.underlying28 (by kernel_rfl) (by decide +kernel) g2 w2 (fun m _ => open_ex m)
  obtain ⟨z3, e3, _, _⟩ := DataW.trod_int (k := .i64) (by kernel_rfl) g3
  obtain ⟨l4, ys4, e4, hr4, _, ha4⟩ := open_rows (St.cells eT) (GoodS w) (sz := 6) Try.underlying33 (by kernel_rfl) (by decide +kernel) g4 w4 (fun m hm => ih m (by omega))
  obtain ⟨l5, ys5, e5, hr5, _, ha5⟩ := open_rows (St.cells eT) (GoodS w) (sz := 6) Try.underlying33 (by kernel_rfl) (by decide +kernel) g5 w5 (fun m hm => ih m (by omega))
  simp at e0 e1 e2 e3 e4 e5
  subst e0 e1 e2 e3 e4 e5
  exact ⟨.mk ⟨z0, z1, z3⟩ l2 l4 l5 ys2 ys4 ys5, rfl, ⟨hr2, oks_iff.2 fun y hy => (ha2 y hy).1, hr4, okS_iff.2 fun y hy => (ha4 y hy).1, hr5, okS_iff.2 fun y hy => (ha5 y hy).1⟩,
    ⟨⟨hs, wf_u8 r0⟩, allX_iff.2 fun y hy => (ha2 y hy).2, allL_iff.2 fun y hy => (ha4 y hy).2, allL_iff.2 fun y hy => (ha5 y hy).2⟩⟩
def GoodD (d : Dc) : Prop := d.nm.size ≤ reachBytes
theorem open_dc (fuel : Nat) (cs : List Value) (x : DataW H × List MemPlace) (h : DataW.trod enc Try.prog w 0 (fun _ => true) true fuel 60 cs = some x) (hwt : Wt 60 x.1) : ∃ d : Dc, cs = d.cells ∧ GoodD d := by
  obtain ⟨xs, n, rfl, rfl, hlen, hxs, hf⟩ := DataW.trod_struct Try.underlying60 h
  unfold Wt at hwt
  simp only [DataW.weights, Try.underlying60] at hwt
  rw [show Try.prog.cellsOf 60 = 3 by kernel_rfl] at hlen
  match cs, hlen with
  | [c0, c1, c2], _ =>
  obtain ⟨y0, g0, w0⟩ := field_at (i := 0) hxs hf hwt rfl rfl (m := 1) (by kernel_rfl)
  obtain ⟨y1, g1, w1⟩ := field_at (i := 1) hxs hf hwt rfl rfl (m := 1) (by kernel_rfl)
  obtain ⟨y2, g2, w2⟩ := field_at (i := 2) hxs hf hwt rfl rfl (m := 1) (by kernel_rfl)
  obtain ⟨z0, e0, hx0, _⟩ := DataW.trod_string (by kernel_rfl) g0
  have hs : z0.size ≤ reachBytes := by
    unfold Wt at w0
    rw [hx0] at w0
    have := w0 _ (List.mem_singleton_self _)
    simpa using this
  obtain ⟨z1, e1, _, _⟩ := DataW.trod_int (k := .i64) (by kernel_rfl) g1
  obtain ⟨z2, e2, _, _⟩ := DataW.trod_int (k := .i64) (by kernel_rfl) g2
  simp at e0 e1 e2
  subst e0 e1 e2
  exact ⟨⟨z0, z1, z2⟩, rfl, hs⟩
theorem open_in (fuel : Nat) (cs : List Value) (x : DataW H × List MemPlace) (h : DataW.trod enc Try.prog w 0 (fun _ => true) true fuel 44 cs = some x) (hwt : Wt 44 x.1) : ∃ d : In Loc, cs = d.cells eT ∧ GoodE w d.val := by
  obtain ⟨xs, n, rfl, rfl, hlen, hxs, hf⟩ := DataW.trod_struct Try.underlying44 h
  unfold Wt at hwt
  simp only [DataW.weights, Try.underlying44] at hwt
  rw [show Try.prog.cellsOf 44 = 7 by kernel_rfl] at hlen
  match cs, hlen with
  | [c0, c1, c2, c3, c4, c5, c6], _ =>
  obtain ⟨y0, g0, w0⟩ := field_at (i := 0) hxs hf hwt rfl rfl (m := 1) (by kernel_rfl)
  obtain ⟨y1, g1, w1⟩ := field_at (i := 1) hxs hf hwt rfl rfl (m := 6) (by kernel_rfl)
  obtain ⟨z0, e0, _, _⟩ := DataW.trod_int (k := .i64) (by kernel_rfl) g0
  obtain ⟨z1, e1, hg⟩ := open_ex _ _ _ g1 w1
  simp at e0 e1
  subst e0
  exact ⟨⟨z0, z1⟩, by rw [e1]; rfl, hg⟩
def GoodP (w : World) (x : Pr Loc) : Prop := x.ok eT w ∧ x.nm.size ≤ reachBytes ∧ (∀ d ∈ x.ps, GoodD d) ∧ x.ps.length ≤ reachBytes ∧ allL HdOk SHdOk x.body
theorem open_pr (fuel : Nat) (cs : List Value) (x : DataW H × List MemPlace) (h : DataW.trod enc Try.prog w 0 (fun _ => true) true fuel 46 cs = some x) (hwt : Wt 46 x.1) : ∃ d : Pr Loc, cs = d.cells ∧ GoodP w d := by
  obtain ⟨xs, n, rfl, rfl, hlen, hxs, hf⟩ := DataW.trod_struct Try.underlying46 h
  unfold Wt at hwt
  simp only [DataW.weights, Try.underlying46] at hwt
  rw [show Try.prog.cellsOf 46 = 3 by kernel_rfl] at hlen
  match cs, hlen with
  | [c0, c1, c2], _ =>
  obtain ⟨y0, g0, w0⟩ := field_at (i := 0) hxs hf hwt rfl rfl (m := 1) (by kernel_rfl)
  obtain ⟨y1, g1, w1⟩ := field_at (i := 1) hxs hf hwt rfl rfl (m := 1) (by kernel_rfl)
  obtain ⟨y2, g2, w2⟩ := field_at (i := 2) hxs hf hwt rfl rfl (m := 1) (by kernel_rfl)
  obtain ⟨z0, e0, hx0, _⟩ := DataW.trod_string (by kernel_rfl) g0
  have hs : z0.size ≤ reachBytes := by
    unfold Wt at w0
    rw [hx0] at w0
    have := w0 _ (List.mem_singleton_self _)
    simpa using this
  obtain ⟨l1, ys1, e1, hr1, hn1, ha1⟩ := open_rows Dc.cells GoodD (sz := 3) Try.underlying24 (by kernel_rfl) (by decide +kernel) g1 w1 (fun m _ => open_dc m)
  obtain ⟨l2, ys2, e2, hr2, _, ha2⟩ := open_rows (St.cells eT) (GoodS w) (sz := 6) Try.underlying33 (by kernel_rfl) (by decide +kernel) g2 w2 (fun m _ => open_st m)
  simp at e0 e1 e2
  subst e0 e1 e2
  exact ⟨⟨z0, l1, ys1, l2, ys2⟩, rfl, ⟨hr1, hr2, okS_iff.2 fun y hy => (ha2 y hy).1⟩, hs, ha1, hn1, allL_iff.2 fun y hy => (ha2 y hy).2⟩
theorem open_pg (fuel : Nat) (cs : List Value) (x : DataW H × List MemPlace) (h : DataW.trod enc Try.prog w 0 (fun _ => true) true fuel 35 cs = some x) (hwt : Wt 35 x.1) : ∃ p : Pg Loc, cs = p.cells eT ∧ p.ok eT w ∧ p.fit reachBytes ∧ p.rng := by
  obtain ⟨xs, n, rfl, rfl, hlen, hxs, hf⟩ := DataW.trod_struct Try.underlying35 h
  unfold Wt at hwt
  simp only [DataW.weights, Try.underlying35] at hwt
  rw [show Try.prog.cellsOf 35 = 22 by kernel_rfl] at hlen
  match cs, hlen with
  | [c0, c1, c2, c3, c4, c5, c6, c7, c8, c9, c10, c11, c12, c13, c14, c15, c16, c17, c18, c19, c20, c21], _ =>
  obtain ⟨y0, g0, w0⟩ := field_at (i := 0) hxs hf hwt rfl rfl (m := 1) (by kernel_rfl)
  obtain ⟨y1, g1, w1⟩ := field_at (i := 1) hxs hf hwt rfl rfl (m := 1) (by kernel_rfl)
  obtain ⟨y2, g2, w2⟩ := field_at (i := 2) hxs hf hwt rfl rfl (m := 1) (by kernel_rfl)
  obtain ⟨y3, g3, w3⟩ := field_at (i := 3) hxs hf hwt rfl rfl (m := 1) (by kernel_rfl)
  obtain ⟨y4, g4, w4⟩ := field_at (i := 4) hxs hf hwt rfl rfl (m := 1) (by kernel_rfl)
  obtain ⟨y5, g5, w5⟩ := field_at (i := 5) hxs hf hwt rfl rfl (m := 1) (by kernel_rfl)
  obtain ⟨y6, g6, w6⟩ := field_at (i := 6) hxs hf hwt rfl rfl (m := 6) (by kernel_rfl)
  obtain ⟨y7, g7, w7⟩ := field_at (i := 7) hxs hf hwt rfl rfl (m := 1) (by kernel_rfl)
  obtain ⟨y8, g8, w8⟩ := field_at (i := 8) hxs hf hwt rfl rfl (m := 1) (by kernel_rfl)
  obtain ⟨y9, g9, w9⟩ := field_at (i := 9) hxs hf hwt rfl rfl (m := 1) (by kernel_rfl)
  obtain ⟨y10, g10, w10⟩ := field_at (i := 10) hxs hf hwt rfl rfl (m := 1) (by kernel_rfl)
  obtain ⟨y11, g11, w11⟩ := field_at (i := 11) hxs hf hwt rfl rfl (m := 6) (by kernel_rfl)
  obtain ⟨z0, e0, _, _⟩ := DataW.trod_int (k := .i64) (by kernel_rfl) g0
  obtain ⟨z1, e1, _, _⟩ := DataW.trod_int (k := .i64) (by kernel_rfl) g1
  obtain ⟨l2, ys2, e2, hr2, hn2, ha2⟩ := open_rows Dc.cells GoodD (sz := 3) Try.underlying24 (by kernel_rfl) (by decide +kernel) g2 w2 (fun m _ => open_dc m)
  obtain ⟨l3, ys3, e3, hr3, hn3, ha3⟩ := open_rows Dc.cells GoodD (sz := 3) Try.underlying24 (by kernel_rfl) (by decide +kernel) g3 w3 (fun m _ => open_dc m)
  obtain ⟨l4, ys4, e4, hr4, hn4, ha4⟩ := open_rows Dc.cells GoodD (sz := 3) Try.underlying24 (by kernel_rfl) (by decide +kernel) g4 w4 (fun m _ => open_dc m)
  obtain ⟨l5, ys5, e5, hr5, hn5, ha5⟩ := open_rows Dc.cells GoodD (sz := 3) Try.underlying24 (by kernel_rfl) (by decide +kernel) g5 w5 (fun m _ => open_dc m)
  obtain ⟨z6, e6, hg6⟩ := open_ex _ _ _ g6 w6
  obtain ⟨l7, ys7, e7, hr7, hn7, ha7⟩ := open_rows (In.cells eT) (fun d => GoodE w d.val) (sz := 7) Try.underlying31 (by kernel_rfl) (by decide +kernel) g7 w7 (fun m _ => open_in m)
  obtain ⟨l8, ys8, e8, hr8, hn8, ha8⟩ := open_rows Pr.cells (GoodP w) (sz := 3) Try.underlying32 (by kernel_rfl) (by decide +kernel) g8 w8 (fun m _ => open_pr m)
  obtain ⟨l9, ys9, e9, hr9, hn9, ha9⟩ := open_rows (St.cells eT) (GoodS w) (sz := 6) Try.underlying33 (by kernel_rfl) (by decide +kernel) g9 w9 (fun m _ => open_st m)
  obtain ⟨l10, ys10, e10, hr10, hn10, ha10⟩ := open_rows (St.cells eT) (GoodS w) (sz := 6) Try.underlying33 (by kernel_rfl) (by decide +kernel) g10 w10 (fun m _ => open_st m)
  obtain ⟨z11, e11, hg11⟩ := open_ex _ _ _ g11 w11
  simp at e0 e1 e2 e3 e4 e5 e6 e7 e8 e9 e10 e11
  subst e0 e1 e2 e3 e4 e5 e7 e8 e9 e10
  refine ⟨⟨z0, z1, l2, ys2, l3, ys3, l4, ys4, l5, ys5, z6, l7, ys7, l8, ys8, l9, ys9, l10, ys10, z11⟩, ?_, ⟨hr2, hr3, hr4, hr5, hg6.1, ⟨hr7, fun y hy => (ha7 y hy).1⟩, ⟨hr8, fun y hy => (ha8 y hy).1⟩, ⟨hr9, okS_iff.2 fun y hy => (ha9 y hy).1⟩, ⟨hr10, okS_iff.2 fun y hy => (ha10 y hy).1⟩, hg11.1⟩,
    ⟨ha2, ha3, ha4, ha5, Ex.all_mono (fun _ h => h.1) hg6.2, ⟨hn7, fun y hy => Ex.all_mono (fun _ h => h.1) (ha7 y hy).2⟩, ⟨hn8, fun y hy => ⟨(ha8 y hy).2.1, (ha8 y hy).2.2.1, (ha8 y hy).2.2.2.1, allL_mono (fun _ h => h.1) (fun _ h => h.1) (ha8 y hy).2.2.2.2⟩⟩,
      allL_iff.2 fun y hy => St.all_mono (fun _ h => h.1) (fun _ h => h.1) (ha9 y hy).2, allL_iff.2 fun y hy => St.all_mono (fun _ h => h.1) (fun _ h => h.1) (ha10 y hy).2, Ex.all_mono (fun _ h => h.1) hg11.2⟩,
    ⟨Ex.all_mono (fun _ h => h.2) hg6.2, fun y hy => Ex.all_mono (fun _ h => h.2) (ha7 y hy).2, fun y hy => allL_mono (fun _ h => h.2) (fun _ h => h.2) (ha8 y hy).2.2.2.2,
      allL_iff.2 fun y hy => St.all_mono (fun _ h => h.2) (fun _ h => h.2) (ha9 y hy).2, allL_iff.2 fun y hy => St.all_mono (fun _ h => h.2) (fun _ h => h.2) (ha10 y hy).2, Ex.all_mono (fun _ h => h.2) hg11.2⟩⟩
  simp only [Pg.cells, ← e6, ← e11]
  rfl
end
end Go.Proofs.Ytnldbplphgfpeaa
