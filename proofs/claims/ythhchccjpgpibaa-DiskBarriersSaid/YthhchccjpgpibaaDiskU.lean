/- Disks: law 9 (barriers), plain. -/
import Derived.Test.YthhchccjpgpibaaDiskT
namespace Go.Proofs.Ythhchccjpgpibaa
open Go Go.RowKit Go.Shelf
set_option linter.unusedVariables false
set_option linter.unusedSimpArgs false
set_option maxHeartbeats 4000000
def pE (x : Ent) : Int × Int := (x.1, x.2.1)
structure Sim (D X : Dst) : Prop where
  wd : D.wd = X.wd
  ws : D.ws = X.ws
  es : D.es.map pE = X.es.map pE
  ep : X.ep = 0
  e0 : ∀ x ∈ X.es, x.2.2 = 0
theorem flushW_map (es : List Ent) : ∀ ws, flushW ws es = (es.map pE).foldl (fun ws x => ws.set x.1.toNat x.2) ws := by
  induction es with
  | nil => intro ws; rfl
  | cons x es ih => intro ws; exact ih _
theorem Sim.flush {D X : Dst} (h : Sim D X) : flushW D.ws D.es = flushW X.ws X.es := by rw [flushW_map, flushW_map, h.es, h.ws]
theorem Sim.len {D X : Dst} (h : Sim D X) : D.es.length = X.es.length := by
  have := congrArg List.length h.es
  simpa using this
theorem Sim.bar {D X : Dst} (h : Sim D X) (a : ActV) (ha : isBar a = true) : Sim (stepD D a) X := by
  have ha2 : a.1 % 8 = 4 := by simpa [isBar] using ha
  unfold stepD
  rw [if_pos ha2]
  unfold Go.Proofs.Ythhchccjpgpibaa.bar
  split
  · exact h
  · exact ⟨h.wd, h.ws, h.es, h.ep, h.e0⟩
theorem Sim.step {D X : Dst} (h : Sim D X) (a : ActV) (ha : isBar a = false) : Sim (stepD D a) (stepD X a) := by
  have ha2 : ¬ a.1 % 8 = 4 := by simpa [isBar] using ha
  unfold stepD
  rw [if_neg ha2, if_neg ha2]
  split
  · exact ⟨h.wd, h.flush, rfl, rfl, by simp [flu]⟩
  split
  · exact h
  · have hw : wOk D (a.2.1 % 4) = wOk X (a.2.1 % 4) := by unfold wOk; rw [h.ws, h.len]
    unfold wrt
    rw [hw]
    split
    · refine ⟨h.wd, h.ws, ?_, h.ep, fun x hx => ?_⟩
      · show (D.es ++ _).map pE = (X.es ++ _).map pE
        rw [List.map_append, List.map_append, h.es, h.wd]
        rfl
      · rcases List.mem_append.1 hx with hx | hx
        · exact h.e0 x hx
        · rw [List.mem_singleton] at hx
          subst hx
          exact h.ep
    · exact h
theorem Sim.run {D X : Dst} (h : Sim D X) (l : List ActV) : Sim (runD D l) (runD X (l.filter noBar)) := by
  induction l generalizing D X with
  | nil => exact h
  | cons a l ih =>
    cases ha : isBar a with
    | true => rw [List.filter_cons_of_neg (by simp [noBar, ha])]; exact ih (h.bar a ha)
    | false => rw [List.filter_cons_of_pos (by simp [noBar, ha])]; exact ih (h.step a ha)
theorem last_filter (l : List ActV) : ∀ ws, lastW ws l = lastW ws (l.filter noBar) := by
  induction l with
  | nil => intro ws; rfl
  | cons a l ih =>
    intro ws
    cases ha : isBar a with
    | true =>
      have ha2 : a.1 % 8 = 4 := by simpa [isBar] using ha
      rw [List.filter_cons_of_neg (by simp [noBar, ha])]
      show lastW (lastS ws a) l = _
      rw [show lastS ws a = ws from if_neg (by omega)]
      exact ih ws
    | false => rw [List.filter_cons_of_pos (by simp [noBar, ha])]; exact ih _
theorem sim_zero (l : List Int) : Sim (mkD 4 3 l) (mkD 4 3 l) := ⟨rfl, rfl, rfl, rfl, by simp [mkD]⟩
theorem flush_first (ws : List Int) (l : List ActV) : runD (mkD 4 3 ws) ((5, 0, 0) :: l) = runD (mkD 4 3 ws) l := by
  show runD (stepD (mkD 4 3 ws) (5, 0, 0)) l = _
  rfl
theorem last_first (ws : List Int) (l : List ActV) : lastW ws ((5, 0, 0) :: l) = lastW ws l := by
  show lastW (lastS ws (5, 0, 0)) l = _
  rw [show lastS ws (5, 0, 0) = ws from if_neg (by simp)]
/-- Three disks, and what was written last. -/
structure Tri (w : World) (d x y : Nat) (fp fpx fpy : List Nat) (D X Y : Dst) (vl vs vt : Value) (l t : List Int) (W : World) : Prop where
  dd : Disk W w.heap.size d fp D
  dx : Disk W w.heap.size x fpx X
  dy : Disk W w.heap.size y fpy Y
  rl : W.ownsRow w.heap.size 36 1 vl 3 (l.map (Value.int .u32))
  rs : W.ownsRow w.heap.size 36 1 vs 3 (l.map (Value.int .u32))
  rt : W.ownsRow w.heap.size 36 1 vt 3 (t.map (Value.int .u32))
  below : Below w.heap.size w W
theorem Tri.new {w : World} {d x y : Nat} {fp fpx fpy : List Nat} {D X Y : Dst} {vl vs vt : Value} {l t : List Int} {W W' : World} (h : Tri w d x y fp fpx fpy D X Y vl vs vt l t W) (hb : Below W.heap.size W W') : Tri w d x y fp fpx fpy D X Y vl vs vt l t W' :=
  ⟨h.dd.new hb, h.dx.new hb, h.dy.new hb, row_new h.rl hb, row_new h.rs hb, row_new h.rt hb, below_and h.below hb⟩
/-- A run's disk, and what was written last. -/
def OneAt (w w0 : World) (D : Dst) (l : List Int) (u v : Value) (W : World) : Prop :=
  ∃ d fp L cap, u = .pointer (some ⟨d, 0, none⟩) ∧ v = .slice L 3 cap ∧ Disk W w.heap.size d fp D ∧ W.ownsRow w.heap.size 36 1 (.slice L 3 cap) 3 (l.map (Value.int .u32)) ∧ Below w0.heap.size w0 W
end Go.Proofs.Ythhchccjpgpibaa
