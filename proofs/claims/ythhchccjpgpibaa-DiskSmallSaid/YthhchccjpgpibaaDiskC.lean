/- Disks: Write. -/
import Derived.Test.YthhchccjpgpibaaDiskB
import Derived.Deep.RegionLaw
import Derived.BigRegion
namespace Go.Proofs.Ythhchccjpgpibaa
open Go Go.RowKit
set_option linter.unusedVariables false
set_option linter.unusedSimpArgs false
set_option maxHeartbeats 4000000
theorem notin_own {v : Value} {k : Nat} (h : v.ownBlock ≠ some k) : k ∉ v.ownBlock.toList := fun hm => h (by simpa using hm)
theorem own_own_ne {w : World} {b1 b2 e1 e2 s1 s2 n1 n2 k : Nat} {v1 v2 : Value} {x1 x2 : List Value} (h1 : w.ownsRow b1 e1 s1 v1 n1 x1) (h2 : w.ownsRow b2 e2 s2 v2 n2 x2) (hne : e1 ≠ e2) (hk : v1.ownBlock = some k) : v2.ownBlock ≠ some k := by
  rcases h1.2 with ⟨rfl, _⟩ | ⟨g, cap, cur, rfl, _, hg, _⟩
  · simp [Value.ownBlock] at hk
  · obtain rfl : g = k := by simpa [Value.ownBlock] using hk
    exact own_blk_ne h2 hg (fun e => hne e.symm)
section
variable {w : World} {base d p : Nat} {v c : Value} {D : Dst} {fp : List Nat}
theorem write_out (h : Dsk w base d p v c D) (b x : Int) (hb : b < 0 ∨ (D.ws.length : Int) ≤ b) : Calls Try.prog 17 #[.pointer (some ⟨d, 0, none⟩), .int .i64 b, .int .u32 x] w fun e w' => e = .returned (.tuple #[.bool false, .int .i64 0]) ∧ w = w' := by
  have h0 := h.c0
  have h1 := h.p0
  obtain ⟨A, n, rfl⟩ := own_form h.hv
  rcases hb with hb | hb
  · go_enter Try.func17, Try.ntmps17
    go_wp2
    go_ret2
    exact ⟨rfl, rfl⟩
  · have hb2 : ¬ b < 0 := by omega
    go_enter Try.func17, Try.ntmps17
    go_wp2
    go_ret2
    exact ⟨rfl, rfl⟩
theorem write_full (h : Dsk w base d p v c D) (b x : Int) (b0 : 0 ≤ b) (hb : b < (D.ws.length : Int)) (hf : D.es.length = 4096) : Calls Try.prog 17 #[.pointer (some ⟨d, 0, none⟩), .int .i64 b, .int .u32 x] w fun e w' => e = .returned (.tuple #[.bool false, .int .i64 4]) ∧ w = w' := by
  have h0 := h.c0
  have h1 := h.p0
  have h2 := h.c2
  obtain ⟨A, n, rfl⟩ := own_form h.hv
  obtain ⟨A2, n2, rfl⟩ := own_form h.hc
  rw [hf] at h2
  go_enter Try.func17, Try.ntmps17
  go_wp2
  go_ret2
  exact ⟨rfl, rfl⟩
theorem write_fin {w1 : World} {A2 : Option Addr} {n2 gg cap : Nat} {o : Obj} (h : Dsk w base d p v (.slice A2 D.es.length n2) D) (b y : Int) (b0 : 0 ≤ b) (hb : b < (D.ws.length : Int)) (y0 : 0 ≤ y) (y1 : y ≤ 65535) (hf : D.es.length < 4096)
    (hown1 : w1.ownsRow base 38 3 (.slice (some ⟨gg, 0, none⟩) (D.es.length + 1) cap) (D.es.length + 1) (encs D.es ++ [.int .i64 b, .int .u32 y, .int .i64 D.ep]))
    (hgrow : (w.alloc o).drew.grownBy w1 (Value.slice A2 D.es.length n2).ownBlock) :
    Dsk (w1.setCell ⟨d, 2, none⟩ (.slice (some ⟨gg, 0, none⟩) (D.es.length + 1) cap)) base d p v (.slice (some ⟨gg, 0, none⟩) (D.es.length + 1) cap) { D with es := D.es ++ [(b, y, D.ep)] } := by
  have hg0 : Only (Value.slice A2 D.es.length n2).ownBlock.toList w w1 := (((Only.refl _ w).alloc o).drew).grown hgrow (fun k hk => .inl (by rw [hk]; simp))
  have hd1 := h.hd.only hg0 (notin_own (own_blk_ne h.hc h.hd (by decide)))
  have hp1 := h.hp.only hg0 (notin_own (own_blk_ne h.hc h.hp (by decide)))
  have hv1 := own_only h.hv hg0 (fun k hk => notin_own (own_own_ne h.hv h.hc (by decide) hk))
  have hs : w1.grownBy (w1.setCell ⟨d, 2, none⟩ (.slice (some ⟨gg, 0, none⟩) (D.es.length + 1) cap)) (some d) := ⟨rfl, rfl, rfl, by simp [World.setCell], fun k _ hk => Below.heap_setCell _ _ _ _ (by rintro rfl; exact hk rfl)⟩
  refine ⟨by have := hd1.set_ 2 (.slice (some ⟨gg, 0, none⟩) (D.es.length + 1) cap); simpa using this, hp1.far (p := ⟨d, 2, none⟩) (hp1.ne_ hd1 (by decide)) _, hv1.kept hs (.inr (own_blk_ne hv1 hd1 (by decide))),
    own_cast (hown1.kept hs (.inr (own_blk_ne hown1 hd1 (by decide)))) (by simp) (by rw [encs_snoc]; rfl), h.bd, h.bp, ?_⟩
  refine { h.ok with ec := by simp; omega, eb := fun x hx => ?_ }
  rcases List.mem_append.1 hx with hx | hx
  · exact h.ok.eb x hx
  · rw [List.mem_singleton] at hx
    subst hx
    exact ⟨b0, hb, y0, y1, h.ok.p1, h.ok.p2⟩
theorem write_only {w1 : World} {A2 : Option Addr} {n2 gg cap : Nat} {o : Obj} {u : Value} (h : Dsk w base d p v (.slice A2 D.es.length n2) D) (hgrow : (w.alloc o).drew.grownBy w1 (Value.slice A2 D.es.length n2).ownBlock) (hat : (Value.slice A2 D.es.length n2).ownBlock = some gg ∨ gg = w.heap.size + 1) (hne : (Value.slice A2 D.es.length n2).ownBlock ≠ some d) :
    (∀ k, (Value.slice (some ⟨gg, 0, none⟩) (D.es.length + 1) cap).ownBlock = some k → (Value.slice A2 D.es.length n2).ownBlock = some k ∨ w.heap.size ≤ k) ∧ Only (d :: (Value.slice A2 D.es.length n2).ownBlock.toList) w (w1.setCell ⟨d, 2, none⟩ u) := by
  refine ⟨fun k hk => ?_, ?_⟩
  · obtain rfl : gg = k := by simpa [Value.ownBlock] using hk
    rcases hat with e | e
    · exact .inl e
    · exact .inr (by omega)
  · have hg0 : Only (d :: (Value.slice A2 D.es.length n2).ownBlock.toList) w w1 := (((Only.refl _ w).alloc o).drew).grown hgrow (fun k hk => .inl (by rw [hk]; simp))
    exact hg0.setCell (p := ⟨d, 2, none⟩) (.inl (by simp)) _
set_option maxRecDepth 100000 in
theorem write_ok (h : Dsk w base d p v c D) (b x : Int) (b0 : 0 ≤ b) (hb : b < (D.ws.length : Int)) (x0 : 0 ≤ x) (x1 : x ≤ 4294967295) (hf : D.es.length < 4096) : Calls Try.prog 17 #[.pointer (some ⟨d, 0, none⟩), .int .i64 b, .int .u32 x] w fun e w' =>
    e = .returned (.tuple #[.bool true, .int .i64 0]) ∧ ∃ c', Dsk w' base d p v c' { D with es := D.es ++ [(b, cutW x D.wd, D.ep)] } ∧ (∀ k, c'.ownBlock = some k → c.ownBlock = some k ∨ w.heap.size ≤ k) ∧ Only (d :: c.ownBlock.toList) w w' := by
  obtain ⟨i0, hi, hz0, hz1, hz2⟩ := info_parts info38
  have h0 := h.c0
  have h1 := h.p0
  have h2 := h.c2
  have h3 := h.c3
  have h4 := h.c1
  have hw1 := h.ok.w1
  have hw2 := h.ok.w2
  obtain ⟨A, n, rfl⟩ := own_form h.hv
  obtain ⟨A2, n2, rfl⟩ := own_form h.hc
  have hn : (D.es.length : Int) < 4096 := by omega
  have hfz := h.hd.frozen 2
  have H := Lib.hid h
  clear h
  go_enter Try.func17, Try.ntmps17
  go_wp2_with (go_at_call 36; refine (cut_ok x D.wd _ hw1 hw2 x0 x1).mono ?_; rintro e w' ⟨rfl, rfl⟩)
  have hne : (Value.slice A2 D.es.length n2).ownBlock ≠ some d := own_blk_ne H.out.hc H.out.hd (by decide)
  have ld := H.out.hd.lt
  have hbase := H.out.bd
  go_region_law
    ((refine step_append_lies _ (by rfl) _ _ _ (by rfl) base 38 i0 _ 3 24 Try.underlying33 hi hz0 hz1 hz2 rfl (by omega) (.slice A2 D.es.length n2) D.es.length (encs D.es) (by rfl) ((H.out.hc.alloc _).drew) ⟨w.heap.size, 0, none⟩ 1 1 [.int .i64 b, .int .u32 (cutW x D.wd), .int .i64 D.ep] (by rfl) (by rfl) (World.news_of_block (cs := #[.int .i64 b, .int .u32 (cutW x D.wd), .int .i64 D.ep]) (t := 38) (fr := (0, 0)) (heap_alloc_new w _)) (by simp [Value.oneCell']) (by omega) (by simp only [maxLen]; omega) (by omega) (by simp; omega) (w.heap.size + 1) (by simp) ?_; intro gg cap w1 hown1 hgrow hat hlt; have hfar : w1.heap[d]? = w.heap[d]? := (hgrow.block d (by simp; omega) (Ne.symm hne)).trans (Below.heap_alloc _ _ _ ld); have hfz1 := (World.frozen?_of_block (a := ⟨d, 2, none⟩) hfar).trans hfz; have hcf2 := (World.cell?_of_block (a := ⟨d, 2, none⟩) hfar).trans h2; have hcf3 := (World.cell?_of_block (a := ⟨d, 3, none⟩) hfar).trans h3; replace hfar := Lib.hid hfar))
  all_goals
    go_wp2
    go_ret2
    refine ⟨rfl, .slice (some ⟨gg, 0, none⟩) (D.es.length + 1) cap, write_fin H.out b (cutW x D.wd) b0 hb (by have := cutW_bd x D.wd hw1 hw2; omega) (by have := cutW_bd x D.wd hw1 hw2; have := mostW_bd D.wd hw1 hw2; omega) hf hown1 hgrow, ?_⟩
    exact write_only H.out hgrow hat hne
end
end Go.Proofs.Ythhchccjpgpibaa
