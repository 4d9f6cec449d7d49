/- Disks: law 7: a disk and that of the reference beside each other. -/
import Derived.Test.YthhchccjpgpibaaDiskAC
import Derived.Test.YthhchccjpgpibaaDiskAD
import Derived.Test.YthhchccjpgpibaaDiskL
namespace Go.Proofs.Ythhchccjpgpibaa
open Go Go.RowKit Go.Shelf
set_option linter.unusedVariables false
set_option linter.unusedSimpArgs false
set_option maxHeartbeats 4000000
/-- Between two acts. -/
structure PD (w : World) (G d : Nat) (fp : List Nat) (D0 : Dst) (D : Dst) (l : List RAct) (v : Value) (W : World) : Prop where
  t : Disk W w.heap.size d fp D
  x : RfX (G :: fp) W v D0 l
  g : G ∉ fp
  below : Below w.heap.size w W
  low : w.heap.size ≤ G
section
variable {w W W' : World} {G d : Nat} {fp : List Nat} {D0 D D2 : Dst} {l l2 : List RAct} {v : Value}
theorem PD.new (h : PD w G d fp D0 D l v W) (hb : Below W.heap.size W W') : PD w G d fp D0 D l v W' := ⟨h.t.new hb, h.x.new hb, h.g, below_and h.below hb, h.low⟩
theorem PD.fpl (h : PD w G d fp D0 D l v W) (hG : G < W.heap.size) : ∀ k ∈ G :: fp, k < W.heap.size := by
  intro k hk
  rcases List.mem_cons.1 hk with rfl | hk
  · exact hG
  · exact (h.t.ge k hk).2
/-- A call of the disk. -/
theorem PD.wrote {fp' : List Nat} (h : PD w G d fp D0 D l v W) (hG : G < W.heap.size) (h1 : Disk W' w.heap.size d fp' D2) (h2 : ∀ k, k ∈ fp' → k ∈ fp ∨ W.heap.size ≤ k) (h3 : Only fp W W') : PD w G d fp' D0 D2 l v W' := by
  refine ⟨h1, fun W2 ho => h.x W2 ((h3.more (fun k hk _ => List.mem_cons_of_mem _ hk)).then ho (fun k hk hl => ?_)), fun hm => ?_, h.below.trans (h3.below h.below.size (fun k hk => (h.t.ge k hk).1)), h.low⟩
  · rcases List.mem_cons.1 hk with rfl | hk
    · exact List.mem_cons_self
    · rcases h2 k hk with h4 | h4
      · exact List.mem_cons_of_mem _ h4
      · omega
  · rcases h2 G hm with h4 | h4
    · exact h.g h4
    · omega
/-- The reference's answer is kept in its box. -/
theorem PD.store {a0 a1 a2 : Value} (h : PD w G d fp D0 D l v W) (hx : RfX (G :: fp) W (.agg #[a0, a1, a2]) D0 l2) :
    PD w G d fp D0 D l2 (.agg #[a0, a1, a2]) (((W.setCell ⟨G, 0, none⟩ a0).setCell ⟨G, 1, none⟩ a1).setCell ⟨G, 2, none⟩ a2) := by
  have hO : Only [G] W (((W.setCell ⟨G, 0, none⟩ a0).setCell ⟨G, 1, none⟩ a1).setCell ⟨G, 2, none⟩ a2) :=
    (((Only.refl _ W).setCell (.inl (by simp)) _).setCell (.inl (by simp)) _).setCell (.inl (by simp)) _
  refine ⟨h.t.keep hO (fun k hk hm => ?_), hx.only (hO.more (fun k hk _ => ?_)), h.g, h.below.trans (hO.below h.below.size (fun k hk => ?_)), h.low⟩
  · rw [List.mem_singleton.1 hm] at hk
    exact h.g hk
  · rw [List.mem_singleton.1 hk]
    exact List.mem_cons_self
  · rw [List.mem_singleton.1 hk]
    exact h.low
theorem blk_store {a0 a1 a2 b0 b1 b2 : Value} (h : Blk W G 74 #[b0, b1, b2]) : Blk (((W.setCell ⟨G, 0, none⟩ a0).setCell ⟨G, 1, none⟩ a1).setCell ⟨G, 2, none⟩ a2) G 74 #[a0, a1, a2] := by
  have := ((h.set_ 0 a0).set_ 1 a1).set_ 2 a2
  simpa using this
end
/-- The state of both, in one form. -/
def PK (w : World) (D0 : Dst) (G k : Nat) (d : Nat) (W : World) : Prop := ∃ fp l Af cf Ad cd, PD w G d fp D0 (runR D0 l) l (.agg #[.slice Af D0.ws.length cf, .int .i64 D0.wd, .slice Ad l.length cd]) W ∧
  Blk W G 74 #[.slice Af D0.ws.length cf, .int .i64 D0.wd, .slice Ad l.length cd] ∧ l.length ≤ k ∧ ROk D0.ws.length l
theorem PK.new {w W W' : World} {D0 : Dst} {G k d : Nat} (h : PK w D0 G k d W) (hb : Below W.heap.size W W') : PK w D0 G k d W' := by
  obtain ⟨fp, l, Af, cf, Ad, cd, h1, h2, h3⟩ := h
  exact ⟨fp, l, Af, cf, Ad, cd, h1.new hb, h2.below hb h2.lt, h3⟩
/-- The first words. -/
structure RZ (D0 : Dst) : Prop where
  es : D0.es = []
  ep : D0.ep = 0
  n1 : 1 ≤ D0.ws.length
  n2 : D0.ws.length ≤ 16
  w1 : 1 ≤ D0.wd
  w2 : D0.wd ≤ 16
  wb : ∀ x ∈ D0.ws, 0 ≤ x ∧ x ≤ 65535
theorem RZ.ri {D0 : Dst} (h : RZ D0) {l : List RAct} (ho : ROk D0.ws.length l) (hl : l.length ≤ 1000) : RI D0 l := ⟨h.es, h.ep, h.n1, h.n2, h.w1, h.w2, h.wb, ho, hl⟩
section
variable {D0 : Dst} {l : List RAct}
theorem bar_is (h : RZ D0) (hl : l.length ≤ 1000) : bErr (runR D0 l) = 0 ∧ bar (runR D0 l) = runR D0 (l ++ [(2, 0, 0)]) := by
  have hr := run_len D0 ⟨h.es, h.ep⟩ l
  have hne : (runR D0 l).ep ≠ 4096 := by omega
  refine ⟨if_neg hne, ?_⟩
  rw [runR_snoc]
  unfold bar
  rw [if_neg hne]
  rfl
theorem flu_is : flu (runR D0 l) = runR D0 (l ++ [(3, 0, 0)]) := by rw [runR_snoc]; rfl
theorem wrt_is (h : RZ D0) (hl : l.length ≤ 1000) (b x : Int) : wOk (runR D0 l) b = decide (0 ≤ b ∧ b < D0.ws.length) ∧ wErr (runR D0 l) b = 0 ∧ wrt (runR D0 l) b x = runR D0 (wrL D0 l b x) := by
  have hr := run_len D0 ⟨h.es, h.ep⟩ l
  have hd := run_wd l D0
  have he : (runR D0 l).es.length < 4096 := by omega
  have hok : wOk (runR D0 l) b = decide (0 ≤ b ∧ b < D0.ws.length) := by
    unfold wOk
    rw [hd.2]
    simp [he]
  refine ⟨hok, by unfold wErr; rw [if_neg (by omega)], ?_⟩
  unfold wrt wrL
  rw [hok]
  by_cases hb : 0 ≤ b ∧ b < D0.ws.length
  · rw [if_pos (by simpa using hb), if_pos hb, runR_snoc]
    unfold stepR
    rw [if_pos rfl]
    dsimp only
    rw [hd.1]
  · rw [if_neg (by simpa using hb), if_neg hb]
theorem wrL_ok (h : RZ D0) (ho : ROk D0.ws.length l) (b x : Int) : ROk D0.ws.length (wrL D0 l b x) ∧ (wrL D0 l b x).length ≤ l.length + 1 := by
  unfold wrL
  split
  · rename_i hb
    have h1 := cutW_bd x D0.wd h.w1 h.w2
    have h2 := mostW_bd D0.wd h.w1 h.w2
    exact ⟨ho.snoc ⟨.inl rfl, hb.1, hb.2, h1.1, by dsimp only; omega⟩, by simp⟩
  · exact ⟨ho, by omega⟩
end
end Go.Proofs.Ythhchccjpgpibaa
