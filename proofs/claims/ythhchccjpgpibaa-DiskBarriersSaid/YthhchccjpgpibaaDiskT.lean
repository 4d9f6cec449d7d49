/- Disks: slices.IndexFunc and slices.DeleteFunc, of barriers. -/
import Derived.Test.YthhchccjpgpibaaDiskS
import Derived.Lib.SliceRun
namespace Go.Proofs.Ythhchccjpgpibaa
open Go Go.RowKit Go.Shelf
set_option linter.unusedVariables false
set_option linter.unusedSimpArgs false
set_option maxHeartbeats 4000000
def isBar (a : ActV) : Bool := a.1 % 8 == 4
theorem bar_yes (x0 x1 x2 : Int) (h0 : 0 ≤ x0) (h1 : x0 ≤ 255) (h : (x0 % 8 == 4) = true) (w : World) : Calls Try.prog 31 #[.agg #[.int .u8 x0, .int .i64 x1, .int .u32 x2]] w fun e w' => e = .returned (.bool true) ∧ w.alloc (.cells #[.int .u8 x0, .int .i64 x1, .int .u32 x2] 31) = w' := by
  go_enter Try.func31, Try.ntmps31
  go_wp2
  go_ret
  exact ⟨rfl, rfl⟩
theorem bar_no (x0 x1 x2 : Int) (h0 : 0 ≤ x0) (h1 : x0 ≤ 255) (h : (x0 % 8 == 4) = false) (w : World) : Calls Try.prog 31 #[.agg #[.int .u8 x0, .int .i64 x1, .int .u32 x2]] w fun e w' => e = .returned (.bool false) ∧ w.alloc (.cells #[.int .u8 x0, .int .i64 x1, .int .u32 x2] 31) = w' := by
  go_enter Try.func31, Try.ntmps31
  go_wp2
  go_ret
  exact ⟨rfl, rfl⟩
/-- The first barrier. -/
def firstBar (l : List ActV) (i : Int) : Prop := (i = -1 ∧ ∀ a ∈ l, isBar a = false) ∨ ∃ k : Nat, i = k ∧ k < l.length ∧ (∀ a ∈ l.take k, isBar a = false) ∧ ∃ x, l[k]? = some x ∧ isBar x = true
set_option maxRecDepth 100000 in
theorem index45 (A : Option Addr) (n c B : Nat) (l : List ActV) (w : World) (hrd : Reads w B 3 A n (encAs l)) (hB : B ≤ w.heap.size) (hok : ∀ a ∈ l, ActV.Ok a) (hn : n ≤ 65536) :
    Calls Try.prog 45 #[.slice A n c, .func (.func 31) #[] #[]] w fun e w' => ∃ i, e = .returned (.int .i64 i) ∧ firstBar l i ∧ Below w.heap.size w w' := by
  have hll : l.length = n := by have := hrd.1; rw [encAs_len] at this; omega
  replace hok := Lib.hid hok
  replace hll := Lib.hid hll
  go_enter Try.func45, Try.ntmps45
  go_wp2
  go_loopw [8] (fun i wr => ∃ k : Nat, k ≤ n ∧ i = .int .i64 k ∧ (∀ a ∈ l.take k, isBar a = false) ∧ Below w.heap.size w wr) (fun i _ => n - (intOf i).toNat)
  case atStart => exact ⟨0, by omega, rfl, by simp, Below.refl _ _⟩
  case round =>
    obtain ⟨k, hk, rfl, hpre, hB1⟩ := hrel
    replace hpre := Lib.hid hpre
    by_cases hlt : k < n
    · obtain ⟨ad, ⟨x0, x1, x2⟩, rfl, hab, hx, q0, q1, q2⟩ := reads_act (hrd.below (hB1.mono hB)) hlt
      have hxo := hok.out _ (List.mem_of_getElem? hx)
      dsimp only [ActV.Ok] at q0 q1 q2 hxo
      have t1 : (k : Int) < (n : Int) := by omega
      have t3 : 0 ≤ (k : Int) := by omega
      have hsn := take_snoc hx
      replace hsn := Lib.hid hsn
      replace hx := Lib.hid hx
      by_cases hb : (x0 % 8 == 4) = true
      · go_wp2_with (go_at_call 31; refine (bar_yes x0 x1 x2 hxo.1 hxo.2.1 hb _).mono ?_; rintro e w' ⟨rfl, rfl⟩)
        go_ret
        exact ⟨_, rfl, .inr ⟨k, rfl, by rw [hll.out]; exact hlt, hpre.out, _, hx.out, hb⟩, hB1.alloc hB1.size _⟩
      · have hb' : (x0 % 8 == 4) = false := by simpa using hb
        clear hb
        go_wp2_with (go_at_call 31; refine (bar_no x0 x1 x2 hxo.1 hxo.2.1 hb' _).mono ?_; rintro e w' ⟨rfl, rfl⟩)
        go_roundw
        case rel =>
          refine ⟨k + 1, by omega, by go_num, fun a ha => ?_, hB1.alloc hB1.size _⟩
          rw [hsn.out, List.mem_append, List.mem_singleton] at ha
          rcases ha with ha | rfl
          · exact hpre.out a ha
          · exact hb'
        case measure => simp [intOf]; omega
    · obtain rfl : k = n := by omega
      go_wp2
      go_ret
      exact ⟨_, rfl, .inl ⟨rfl, fun a ha => hpre.out a (by rw [List.take_of_length_le (by rw [hll.out]; exact Nat.le_refl _)]; exact ha)⟩, hB1⟩
theorem own_act {w : World} {base n c : Nat} {A : Option Addr} {es : List ActV} (h : w.ownsRow base 31 3 (.slice A n c) n (encAs es)) {k : Nat} {x : ActV} (hx : es[k]? = some x) :
    ∃ g, A = some ⟨g, 0, none⟩ ∧ k < n ∧ w.cell? ⟨g, k * 3, none⟩ = some (.int .u8 x.1) ∧ w.cell? ⟨g, k * 3 + 1, none⟩ = some (.int .i64 x.2.1) ∧ w.cell? ⟨g, k * 3 + 2, none⟩ = some (.int .u32 x.2.2) := by
  have hl : es.length = n := by have := h.1; rw [encAs_len] at this; omega
  have hk : k < n := by rw [← hl]; exact (List.getElem?_eq_some_iff.1 hx).1
  obtain ⟨g, cap, hv, _, _⟩ := h.form (by omega)
  have hA : A = some ⟨g, 0, none⟩ := by injection hv
  subst hA
  have hc := h.cells (g := g) rfl
  have h0 := hc (k * 3 + 0) _ (by have := encAs_at es k 0 x hx (by omega); simpa [encA] using this)
  have h1 := hc (k * 3 + 1) _ (by have := encAs_at es k 1 x hx (by omega); simpa [encA] using this)
  have h2 := hc (k * 3 + 2) _ (by have := encAs_at es k 2 x hx (by omega); simpa [encA] using this)
  rw [Addr.add_lit, Nat.zero_add] at h0 h1 h2
  exact ⟨g, rfl, hk, h0, h1, h2⟩
theorem encAs_set (l : List ActV) : ∀ (k : Nat) (x : ActV), k < l.length → encAs (l.set k x) = (((encAs l).set (k * 3) (.int .u8 x.1)).set (k * 3 + 1) (.int .i64 x.2.1)).set (k * 3 + 2) (.int .u32 x.2.2) := by
  induction l with
  | nil => intro k x h; simp at h
  | cons y l ih =>
    intro k x h
    cases k with
    | zero => simp [encAs, encA]
    | succ k =>
      have := ih k x (by simpa using h)
      rw [show (y :: l).set (k + 1) x = y :: l.set k x from rfl, show encAs (y :: l.set k x) = encA y ++ encAs (l.set k x) from by simp [encAs], show encAs (y :: l) = encA y ++ encAs l from by simp [encAs], this]
      rw [show (k + 1) * 3 = k * 3 + 3 by omega, show k * 3 + 3 + 1 = (k * 3 + 1) + 3 by omega, show k * 3 + 3 + 2 = (k * 3 + 2) + 3 by omega]
      simp [encA]
def noBar (a : ActV) : Bool := !isBar a
theorem zero31 (w : World) : (zeroValue 31).run Try.prog w = .ok (.agg #[.int .u8 0, .int .i64 0, .int .u32 0]) w := by kernel_rfl
/-- clear(s[i:]), s a row of acts. -/
theorem clear31 (w : World) (ty : TypeId) (g o n c : Nat) (hc : ∀ j, j < n * 3 → (w.cell? ⟨g, o + j, none⟩).isSome = true) (hf : ∀ j, w.frozen? ⟨g, j, none⟩ = false) (hn : 0 < n) :
    (Builtin.clear_ #[23] ty #[.slice (some ⟨g, o, none⟩) n c]).run Try.prog w = .ok (.tuple #[]) (w.setCells g o (Builtin.zeroCells #[.int .u8 0, .int .i64 0, .int .u32 0] n).toList) := by
  have hlen : (Builtin.zeroCells #[Value.int .u8 0, .int .i64 0, .int .u32 0] n).toList.length = n * 3 := by simp [Builtin.zeroCells]
  have hst := run_storeCells_cells (P := Try.prog) g o (Builtin.zeroCells #[Value.int .u8 0, .int .i64 0, .int .u32 0] n).toList 0 w (fun j hj => by rw [hlen] at hj; simpa using hc j hj) (fun j hj => by simpa using hf (o + j)) (by
    intro v hv
    simp [Builtin.zeroCells] at hv
    obtain ⟨a, _, rfl⟩ := hv
    have : a % 3 = 0 ∨ a % 3 = 1 ∨ a % 3 = 2 := by omega
    rcases this with h | h | h <;> rw [h] <;> rfl)
  simp only [Nat.add_zero] at hst
  obtain ⟨m, rfl⟩ : ∃ m, n = m + 1 := ⟨n - 1, by omega⟩
  simp [Builtin.clear_, run_underlying Try.underlying23, zero31, Value.cells, hst]
/-- What the loop of DeleteFunc keeps. -/
def DelAt (w : World) (base g n c : Nat) (l : List ActV) (i j : Nat) (wr : World) : Prop :=
  ∃ R, i < j ∧ j ≤ n ∧ wr.ownsRow base 31 3 (.slice (some ⟨g, 0, none⟩) n c) n (encAs R) ∧ R.take i = (l.take j).filter noBar ∧ R.drop j = l.drop j ∧ Below base w wr
theorem delat_store {w wr : World} {base g n c : Nat} {l : List ActV} {i j : Nat} {R : List ActV} (h1 : i < j) (h2 : j < n) (h3 : wr.ownsRow base 31 3 (.slice (some ⟨g, 0, none⟩) n c) n (encAs R)) (h4 : R.take i = (l.take j).filter noBar) (h5 : R.drop j = l.drop j) (h6 : Below base w wr)
    {x : ActV} (hx : l[j]? = some x) (hbar : isBar x = false) :
    DelAt w base g n c l (i + 1) (j + 1) (((wr.setCell ⟨g, i * 3, none⟩ (.int .u8 x.1)).setCell ⟨g, i * 3 + 1, none⟩ (.int .i64 x.2.1)).setCell ⟨g, i * 3 + 2, none⟩ (.int .u32 x.2.2)) := by
  have hl : R.length = n := by have := h3.1; rw [encAs_len] at this; omega
  have hg : base ≤ g := (h3.lt g rfl).1
  have s1 := (h3.stored (i * 3) (.int .u8 x.1)).1
  have s2 := (s1.stored (i * 3 + 1) (.int .i64 x.2.1)).1
  have s3 := (s2.stored (i * 3 + 2) (.int .u32 x.2.2)).1
  rw [← encAs_set R i x (by omega)] at s3
  refine ⟨R.set i x, by omega, by omega, s3, ?_, ?_, ?_⟩
  · rw [List.take_set, List.take_add_one, take_snoc hx, List.filter_append, ← h4]
    have hi : R[i]? = some (R[i]'(by omega)) := List.getElem?_eq_getElem (by omega)
    rw [hi, Option.toList_some, List.set_append_right _ _ (by simp; omega)]
    simp [noBar, hbar, show min i R.length = i by omega]
  · rw [List.drop_set_of_lt (by omega), ← List.drop_drop, h5, List.drop_drop]
  · exact ((h6.setCell (p := ⟨g, i * 3, none⟩) hg _).setCell (p := ⟨g, i * 3 + 1, none⟩) hg _).setCell (p := ⟨g, i * 3 + 2, none⟩) hg _
theorem delat_keep {w wr w' : World} {base g n c : Nat} {R : List ActV} (h3 : wr.ownsRow base 31 3 (.slice (some ⟨g, 0, none⟩) n c) n (encAs R)) (h6 : Below base w wr) (hb : Below wr.heap.size wr w') (hB : base ≤ wr.heap.size) :
    w'.ownsRow base 31 3 (.slice (some ⟨g, 0, none⟩) n c) n (encAs R) ∧ Below base w w' := ⟨row_new h3 hb, h6.trans (hb.mono hB)⟩
theorem delat_new {w wr w' : World} {base g n c : Nat} {l : List ActV} {i j : Nat} (hB : base ≤ w.heap.size) (h : DelAt w base g n c l i j wr) (hb : Below wr.heap.size wr w') : DelAt w base g n c l i j w' := by
  obtain ⟨R, h1, h2, h3, h4, h5, h6⟩ := h
  exact ⟨R, h1, h2, row_new h3 hb, h4, h5, h6.trans (hb.mono (by have := h6.size; omega))⟩
theorem below_setCells {B : Nat} {w : World} (g : Nat) (hg : B ≤ g) : ∀ (vs : List Value) (o : Nat) (w' : World), Below B w w' → Below B w (w'.setCells g o vs)
  | [], _, _, h => h
  | v :: vs, o, w', h => below_setCells g hg vs (o + 1) _ (h.setCell (p := ⟨g, o, none⟩) hg v)
theorem size_setCells (g : Nat) : ∀ (vs : List Value) (o : Nat) (w' : World), (w'.setCells g o vs).heap.size = w'.heap.size
  | [], _, _ => rfl
  | v :: vs, o, w' => by rw [World.setCells, size_setCells g vs]; simp [World.setCell]
/-- The first elements, behind the clearing of the others. -/
theorem reads_cleared {w : World} {base g n c : Nat} {R : List ActV} (h : w.ownsRow base 31 3 (.slice (some ⟨g, 0, none⟩) n c) n (encAs R)) (i : Nat) (hi : i ≤ n) (Z : List Value) :
    Reads (w.setCells g (i * 3) Z) (w.setCells g (i * 3) Z).heap.size 3 (some ⟨g, 0, none⟩) i (encAs (R.take i)) := by
  have hl : R.length = n := by have := h.1; rw [encAs_len] at this; omega
  refine ⟨by rw [encAs_len, List.length_take]; omega, fun hn => ⟨_, rfl, by rw [size_setCells]; exact (h.lt g rfl).2, fun j u hu => ?_⟩⟩
  rw [← encAs_take, List.getElem?_take] at hu
  by_cases hj : j < i * 3
  · rw [if_pos hj] at hu
    have hz := World.cell?_setCells_out g Z (i * 3) w ⟨g, j, none⟩ (fun _ _ => .inl hj)
    rw [Addr.add_lit, Nat.zero_add, hz, h.cellAt j (by omega)]
    exact hu
  · rw [if_neg hj] at hu; cases hu
set_option maxRecDepth 100000 in
theorem delete30 (A : Option Addr) (n c base : Nat) (l : List ActV) (w : World) (hv : w.ownsRow base 31 3 (.slice A n c) n (encAs l)) (hB : base ≤ w.heap.size) (hok : ∀ a ∈ l, ActV.Ok a) (hn : n ≤ 65536) :
    Calls Try.prog 30 #[.slice A n c, .func (.func 31) #[] #[]] w fun e w' => e = .returned (.slice A (l.filter noBar).length c) ∧ Reads w' w'.heap.size 3 A (l.filter noBar).length (encAs (l.filter noBar)) ∧ Below base w w' := by
  have hll : l.length = n := by have := hv.1; rw [encAs_len] at this; omega
  obtain ⟨hnc, hcm⟩ := own_cap hv
  replace hok := Lib.hid hok
  replace hll := Lib.hid hll
  go_enter Try.func30, Try.ntmps30
  go_wp2_with fail
  refine (index45 A n c _ l _ (Reads.of_own hv) (Nat.le_refl _) hok.out hn).mono ?_
  rintro e w1 ⟨i, rfl, hi, hB1⟩
  replace hv := row_new hv hB1
  rcases hi with ⟨rfl, hall⟩ | ⟨k, rfl, hk, hpre, x, hx, hbx⟩
  · have e1 : ((-1 : Int) == -1) = true := rfl
    replace hall := Lib.hid hall
    go_wp2
    go_ret
    replace hall := hall.out
    have hf : l.filter noBar = l := by
      rw [List.filter_eq_self]
      intro a ha
      simp [noBar, hall a ha]
    refine ⟨by rw [hf, hll.out]; rfl, ?_, hB1.mono hB⟩
    rw [hf, hll.out]
    exact Reads.of_own hv
  · have hkn : k < n := by have := hll.out; omega
    obtain ⟨g, cap2, hvv, hgb, hgl⟩ := hv.form (by omega)
    obtain ⟨rfl, rfl⟩ : A = some ⟨g, 0, none⟩ ∧ c = cap2 := by injection hvv with a b c; exact ⟨a, c⟩
    clear hvv
    have e1 : ((k : Int) == -1) = false := by simp
    have e2 : (k : Int) < n := by omega
    have e3 : (0 : Int) ≤ k := by omega
    have hd0 : DelAt w base g n c l k (k + 1) w1 := by
      refine ⟨l, by omega, by omega, hv, ?_, rfl, hB1.mono hB⟩
      rw [take_snoc hx, List.filter_append]
      have : (l.take k).filter noBar = l.take k := by
        rw [List.filter_eq_self]
        intro a ha
        simp [noBar, hpre a ha]
      rw [this]
      simp [noBar, hbx]
    clear hv hB1 hpre
    replace hx := Lib.hid hx
    go_wp2
    go_loopw [5, 6] (fun u v wr => ∃ i j : Nat, u = .int .i64 i ∧ v = .int .i64 j ∧ DelAt w base g n c l i j wr) (fun _ v _ => n - (intOf v).toNat)
    case atStart => exact ⟨k, k + 1, rfl, by go_num, hd0⟩
    case round =>
      clear hd0
      obtain ⟨i, j, rfl, rfl, R, h1, h2, h3, h4, h5, h6⟩ := hrel
      replace h4 := Lib.hid h4
      replace h5 := Lib.hid h5
      have hRl : R.length = n := by have := h3.1; rw [encAs_len] at this; omega
      replace hRl := Lib.hid hRl
      have hBr : base ≤ wr.heap.size := by have := h6.size; omega
      have e4 : (0 : Int) ≤ i := by omega
      have e5 : (0 : Int) ≤ j := by omega
      by_cases hlt : j < n
      · obtain ⟨⟨x0, x1, x2⟩, hxj⟩ : ∃ y, l[j]? = some y := ⟨_, List.getElem?_eq_getElem (by have := hll.out; omega)⟩
        have hxo := hok.out _ (List.mem_of_getElem? hxj)
        have hRj : R[j]? = some (x0, x1, x2) := by
          have := congrArg (fun m => m[0]?) h5.out
          simpa [hxj] using this
        obtain ⟨⟨y0, y1, y2⟩, hRi⟩ : ∃ y, R[i]? = some y := ⟨_, List.getElem?_eq_getElem (by have := hRl.out; omega)⟩
        obtain ⟨g', eg, _, q0, q1, q2⟩ := own_act h3 hRj
        obtain rfl : g = g' := by injection eg with eg; injection eg
        obtain ⟨g', eg', _, r0, r1, r2⟩ := own_act h3 hRi
        obtain rfl : g = g' := by injection eg' with eg'; injection eg'
        clear eg eg'
        have z0 := h3.frozenAt (i * 3)
        have z1 := h3.frozenAt (i * 3 + 1)
        have z2 := h3.frozenAt (i * 3 + 2)
        have hgl2 := (h3.lt g rfl).2
        dsimp only [ActV.Ok] at q0 q1 q2 r0 r1 r2 hxo
        have e6 : (j : Int) < n := by omega
        have e7 : (i : Int) < n := by omega
        have hA := (Below.refl _ wr).alloc (Nat.le_refl _) (.cells #[.int .u8 x0, .int .i64 x1, .int .u32 x2] 31)
        obtain ⟨h3a, h6a⟩ := delat_keep h3 h6 hA hBr
        have hA2 := (Below.refl _ (wr.alloc (.cells #[.int .u8 x0, .int .i64 x1, .int .u32 x2] 31))).alloc (Nat.le_refl _) (.cells #[.int .u8 x0, .int .i64 x1, .int .u32 x2] 31)
        obtain ⟨h3b, h6b⟩ := delat_keep h3a h6a hA2 (by simp; omega)
        clear hA hA2 h3a h6a
        replace hxj := Lib.hid hxj
        clear hRj hRi
        by_cases hb : (x0 % 8 == 4) = true
        · have hfin : Hid (DelAt w base g n c l i (j + 1) ((wr.alloc (.cells #[.int .u8 x0, .int .i64 x1, .int .u32 x2] 31)).alloc (.cells #[.int .u8 x0, .int .i64 x1, .int .u32 x2] 31))) :=
            Lib.hid ⟨R, by omega, by omega, h3b, by rw [take_snoc hxj.out, List.filter_append, h4.out]; simp [noBar, isBar, hb], by rw [← List.drop_drop, h5.out, List.drop_drop], h6b⟩
          clear h3 h6
          go_wp2_with (go_at_call 31; refine (bar_yes x0 x1 x2 hxo.1 hxo.2.1 hb _).mono ?_; rintro e w' ⟨rfl, rfl⟩)
          go_roundw
          case rel => exact ⟨i, j + 1, rfl, by go_num, hfin.out⟩
          case measure => simp [intOf]; omega
        · have hb' : (x0 % 8 == 4) = false := by simpa using hb
          clear hb
          have hfin := delat_new hB (delat_new hB (delat_store h1 hlt h3 h4.out h5.out h6 hxj.out (by simpa [isBar] using hb')) ((Below.refl _ _).alloc (Nat.le_refl _) (.cells #[.int .u8 x0, .int .i64 x1, .int .u32 x2] 31))) ((Below.refl _ _).alloc (Nat.le_refl _) (.cells #[.int .u8 x0, .int .i64 x1, .int .u32 x2] 31))
          replace hfin := Lib.hid hfin
          clear h3 h6
          go_wp2_with (go_at_call 31; refine (bar_no x0 x1 x2 hxo.1 hxo.2.1 hb' _).mono ?_; rintro e w' ⟨rfl, rfl⟩)
          go_roundw
          case rel => exact ⟨i + 1, j + 1, by go_num, by go_num, hfin.out⟩
          case measure => simp [intOf]; omega
      · obtain rfl : j = n := by omega
        have e6 : (i : Int) < j := by omega
        have hcl := fun ty cc => clear31 wr ty g (i * 3) (j - i) cc (fun q hq => by rw [h3.cellAt _ (by omega), List.getElem?_eq_getElem (by have := h3.1; omega)]; rfl) (fun q => h3.frozenAt q) (by omega)
        have hci : ((i : Int)).toNat = i := by omega
        go_wp2
        go_ret
        have hlj : l.take j = l := List.take_of_length_le (by rw [hll.out]; exact Nat.le_refl _)
        have hm : (l.filter noBar).length = i := by
          have := h4.out
          rw [hlj] at this
          rw [← this, List.length_take]
          have := hRl.out
          omega
        have hm2 : encAs (l.filter noBar) = encAs (R.take i) := by
          have := h4.out
          rw [hlj] at this
          rw [this]
        rw [hm, hm2]
        exact ⟨rfl, reads_cleared h3 i (by omega) _, below_setCells g (h3.lt g rfl).1 _ _ _ h6⟩
end Go.Proofs.Ythhchccjpgpibaa
