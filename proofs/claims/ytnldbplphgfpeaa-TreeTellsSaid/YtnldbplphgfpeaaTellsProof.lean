/- The statement salvorlaw29.TreeTells: for every input the Go function returns true and leaves its arguments as they were; no condition. -/
import Derived.Test.YtnldbplphgfpeaaRows
import Derived.WalkKit
import Derived.ProofKit
import Derived.OpenShut
import Derived.ShutString
import Derived.SizedLaws
import Derived.Test.YtnldbplphgfpeaaPost
import Derived.Test.YtnldbplphgfpeaaArgs
import Derived.Test.YtnldbplphgfpeaaTTm
import Derived.Test.YtnldbplphgfpeaaTAx
import Derived.Test.YtnldbplphgfpeaaTOe
namespace Go.Proofs.Ytnldbplphgfpeaa
section
open Go Go.RowKit Go.Shelf
open Go.WideShapes
set_option linter.unusedVariables false
set_option linter.unusedSimpArgs false
set_option maxHeartbeats 8000000
set_option maxRecDepth 100000
theorem treeTells_ok (a b : Pg Loc) (w : World) (ha : a.ok eT w) (hb : b.ok eT w) (fa : a.fit reachBytes) (fb : b.fit reachBytes) (ra : a.rng) (rb : b.rng) :
    Calls Try.prog 7 #[aggP a, aggP b] w fun e w' => e = .returned (.bool true) ∧ Below w.heap.size w w' := by
  have hT : ∀ W, Below w.heap.size w W → Calls Try.prog 29 #[aggP a, aggP b] W fun e w' => e = .returned (.bool true) ∧ Below W.heap.size W w' := fun W h => tells_ok a b W (ha.below h) (hb.below h) fa fb ra rb
  have hca := cellsT_size eT a
  have hcb := cellsT_size eT b
  unfold aggP at hT ⊢
  obtain ⟨ca, hcae⟩ : ∃ c, c = (a.cells eT).toArray := ⟨_, rfl⟩
  obtain ⟨cb, hcbe⟩ : ∃ c, c = (b.cells eT).toArray := ⟨_, rfl⟩
  rw [← hcae] at hca hT ⊢
  rw [← hcbe] at hcb hT ⊢
  have hB := ((Below.refl _ w).alloc (Nat.le_refl _) (.cells ca 35)).alloc (by simp) (.cells cb 35)
  have hb1 := (Blk.new w 35 ca).alloc (.cells cb 35)
  have hb2 := Blk.new (w.alloc (.cells ca 35)) 35 cb
  rw [World.size_alloc] at hb2
  have hc := hT _ hB
  replace hcae := Lib.hid hcae
  replace hcbe := Lib.hid hcbe
  replace hB := Lib.hid hB
  replace hc := Lib.hid hc
  replace hb1 := Lib.hid hb1
  replace hb2 := Lib.hid hb2
  clear hT ha hb fa fb ra rb
  go_enter Try.func7, Try.ntmps7
  go_upto_region 1 with (fail)
  generalize (w.alloc (.cells ca 35)).alloc (.cells cb 35) = W0 at *
  obtain ⟨g1, hg1⟩ : ∃ g, w.heap.size = g := ⟨_, rfl⟩
  obtain ⟨g2, hg2⟩ : ∃ g, w.heap.size + 1 = g := ⟨_, rfl⟩
  rw [hg2, hg1]
  rw [hg1] at hb1
  rw [hg2] at hb2
  replace hg1 := Lib.hid hg1
  replace hg2 := Lib.hid hg2
  have h1 := hb1.out
  have h2 := hb2.out
  go_wp2_with (refine wpList_load_rowW 35 (.tmp 2) rfl (by rfl) g1 rfl 35 ca (0, 0) _ h1 Try.underlying35 rfl (by rw [hca]; kernel_rfl) ?_; refine Shut.out ?_)
  refine shut_mkP ?_
  try simp only [Act.put, List.setIfInBounds_toArray, List.set_cons_zero, List.set_cons_succ]
  go_wp2_with (refine wpList_load_rowW 35 (.tmp 3) rfl (by rfl) g2 rfl 35 cb (0, 0) _ h2 Try.underlying35 rfl (by rw [hcb]; kernel_rfl) ?_; refine Shut.out ?_)
  refine shut_mkP ?_
  try simp only [Act.put, List.setIfInBounds_toArray, List.set_cons_zero, List.set_cons_succ]
  clear h1 h2 hb1 hb2
  go_wp2_with fail
  refine hc.out.mono ?_
  rintro e W1 ⟨rfl, hB1⟩
  have hB2 := Lib.hid (below_and hB.out hB1)
  clear hB1 hc
  go_wp2_with fail
  refine (awake_ok W1).mono ?_
  rintro e W2 ⟨rfl, hB3⟩
  have hB4 := Lib.hid (below_and hB2.out hB3)
  clear hB3
  go_wp2
  go_ret
  exact ⟨rfl, hB4.out⟩
section
variable {H : Type} {enc : TypeId × Value → H} {W : World} {base : Nat} {v0 v1 : Value} {d0 d1 : DataW H} {p0 p1 : List MemPlace}
theorem pg_open {v : Value} {d : DataW H} {p : List MemPlace} (h : DataW.Trod enc Try.prog W 0 (fun _ => true) true 35 v d p) (k : Value.okWide Try.prog W .any base 35 v) (hsz : ∀ m ∈ d.weights Try.prog 35, m ≤ reachBytes) :
    ∃ q : Pg Loc, v = aggP q ∧ q.ok eT W ∧ q.fit reachBytes ∧ q.rng := by
  obtain ⟨cs, rfl, _⟩ := okWide_struct Try.underlying35 k
  obtain ⟨fuel, hf⟩ := h
  obtain ⟨q, h1, h2⟩ := open_pg fuel _ _ hf hsz
  refine ⟨q, ?_, h2⟩
  have h3 : cs.toList = q.cells eT := h1
  show Value.agg cs = .agg (q.cells eT).toArray
  rw [← h3]
theorem tells_open (h0 : DataW.Trod enc Try.prog W 0 (fun _ => true) true 35 v0 d0 p0) (k0 : Value.okWide Try.prog W .any base 35 v0) (s0 : ∀ m ∈ d0.weights Try.prog 35, m ≤ reachBytes)
    (h1 : DataW.Trod enc Try.prog W 0 (fun _ => true) true 35 v1 d1 p1) (k1 : Value.okWide Try.prog W .any base 35 v1) (s1 : ∀ m ∈ d1.weights Try.prog 35, m ≤ reachBytes) :
    Calls Try.prog 7 #[v0, v1] W fun e w' => e = .returned (.bool true) ∧ Below W.heap.size W w' := by
  obtain ⟨a, rfl, a1, a2, a3⟩ := pg_open h0 k0 s0
  obtain ⟨b, rfl, b1, b2, b3⟩ := pg_open h1 k1 s1
  exact treeTells_ok a b W a1 b1 a2 b2 a3 b3
end
end
end Go.Proofs.Ytnldbplphgfpeaa
namespace Go.Proofs.Ytnldbplphgfpeaa.treeTells
open Go.ChangeShapes Go.WideShapes Go.ChangeAt Go.RowKit
open Go.ChangeMaps (open_string)
set_option linter.unusedVariables false

theorem own : ownKnob Try.prog.godebug = none := by kernel_rfl

set_option maxRecDepth 100000 in
theorem lifted (os : Os) (started : os.Started) (H : Type) (enc : TypeId × Value → H) :
    ReturnsInHanded {} Try.checked os 7 .any (Rows.treeTellsSpec.pre6 enc Try.prog Try.f7 Rows.treeTellsRow.domain false) (Rows.treeTellsSpec.post enc Try.prog Try.f7 false true false false) := by
  refine returnsInHanded_of_change_sized (C := Try.checked) own started (by kernel_rfl) Try.func7
    (ChangeSpec.witness6 (enc := enc) (C := Try.checked) false ⟨#[], #[.agg #[.int .i64 0, .int .i64 0, .slice none 0 0, .slice none 0 0, .slice none 0 0, .slice none 0 0, .int .u8 0, .int .u8 0, .int .u32 0, .int .i64 0, .string ⟨#[]⟩, .slice none 0 0, .slice none 0 0, .slice none 0 0, .slice none 0 0, .slice none 0 0, .int .u8 0, .int .u8 0, .int .u32 0, .int .i64 0, .string ⟨#[]⟩, .slice none 0 0], .agg #[.int .i64 0, .int .i64 0, .slice none 0 0, .slice none 0 0, .slice none 0 0, .slice none 0 0, .int .u8 0, .int .u8 0, .int .u32 0, .int .i64 0, .string ⟨#[]⟩, .slice none 0 0, .slice none 0 0, .slice none 0 0, .slice none 0 0, .slice none 0 0, .int .u8 0, .int .u8 0, .int .u32 0, .int .i64 0, .string ⟨#[]⟩, .slice none 0 0]], []⟩ 8 (by kernel_rfl) (by kernel_rfl) (by kernel_rfl) (by kernel_rfl)) ?_
  intro W base args ds gs before hval0 hW hcnd hsz0 _
  have hval : ∀ (j : Nat) t v, Try.f7.params[j]? = some t → args[j]? = some v → Value.okWide Try.prog W .any base t v := hval0
  have hW' := hW
  obtain ⟨p, q, hA0, hV, rfl, hfz, hnd⟩ := hW
  have hA : DataW.TrodAll enc Try.prog W 0 (fun _ => true) true Try.f7.params.toList args.toList ds p := hA0
  have hAk := hA
  have hlt : ∀ x ∈ p, x.block < W.heap.size := fun x hx => hA.lt x hx
  rw [Try.params7] at hA hval hAk
  obtain ⟨v0, vs0, d0, ds0, p0, q0, hargs, rfl, rfl, h0, r0⟩ := trodAll_cons hA
  obtain ⟨v1, vs1, d1, ds1, p1, q1, rfl, rfl, rfl, h1, r1⟩ := trodAll_cons r0
  obtain ⟨rfl, rfl, rfl⟩ := trodAll_nil r1
  obtain rfl : args = #[v0, v1] := by cases args; simp_all
  obtain ⟨rfl, rfl⟩ := trodVars_none hV
  have k0 := hval 0 35 v0 rfl rfl
  have hsz0_ : ∀ m ∈ d0.weights Try.prog 35, m ≤ reachBytes := fun m hm => by have := List.all_eq_true.1 hsz0 _ (DataW.weights_mem_each (j := 0) (t := 35) (d := d0) rfl rfl m hm); simpa using this
  have k1 := hval 1 35 v1 rfl rfl
  have hsz1_ : ∀ m ∈ d1.weights Try.prog 35, m ≤ reachBytes := fun m hm => by have := List.all_eq_true.1 hsz0 _ (DataW.weights_mem_each (j := 1) (t := 35) (d := d1) rfl rfl m hm); simpa using this
  clear hA0 hval0
  refine Calls.mono ((tells_open h0 k0 hsz0_ h1 k1 hsz1_)) fun e W' ⟨he, hg⟩ => ?_
  subst he
  exact ⟨_, rfl, post_of_below (pa := _) (pv := []) hW' (fun _ _ _ => (trodAll_cons_mk (shut_bool Try.underlying4 _) trodAll_mk0)) (fun sp hsp => trodAll_below (by kernel_rfl) hg (by decide +kernel) hAk hlt (fun x hx => hsp x (by simp at hx ⊢; simp [hx]))) (fun _ _ => rfl) (by simp)
    hg (ok_one (by kernel_rfl) rfl (okWide_bool_mk Try.underlying4 _))⟩

theorem over : Rows.treeTellsRow.holds Try.pinned (OpenSpec.ofChange Rows.treeTellsSpec) :=
  OpenClaim.holds_of_wide 7 Try.f7 rfl rfl rfl rfl rfl rfl rfl ⟨rfl, rfl, rfl, rfl, rfl⟩ rfl rfl rfl rfl rfl (by kernel_rfl) Try.func7 (by kernel_rfl)
    (of_decide_eq_true (by kernel_rfl)) (by unfold Func.isWrapper; first | (rw [if_pos (by decide +kernel)]; kernel_rfl) | (rw [if_neg (by decide +kernel)]; exact ⟨rfl, rfl⟩))
    (fun os started H enc _ => lifted os started H enc)

/-- The statement. -/
theorem proved : Rows.TreeTellsSaid :=
  over
#print axioms proved
end Go.Proofs.Ytnldbplphgfpeaa.treeTells
