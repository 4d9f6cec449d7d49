/- Disks: law 7: the acts, one after the other. -/
import Derived.Test.YthhchccjpgpibaaDiskAE
import Derived.Deep.CutBlock
namespace Go.Proofs.Ythhchccjpgpibaa
open Go Go.RowKit Go.Shelf
set_option linter.unusedVariables false
set_option linter.unusedSimpArgs false
set_option maxHeartbeats 4000000
theorem readD_is {D0 : Dst} {l : List RAct} (h : RZ D0) (b : Int) : readD (runR D0 l) b = readR D0 l b := by
  unfold readD readR
  rw [read_is l D0 ⟨h.es, h.ep⟩, (run_wd l D0).2]
theorem readR_bd {D0 : Dst} {l : List RAct} (h : Dst.Ok (runR D0 l)) (hz : RZ D0) (b : Int) : 0 ≤ readR D0 l b ∧ readR D0 l b ≤ 65535 := by
  have hb := flushW_bd _ h (runR D0 l).es.length
  rw [List.take_length, read_is l D0 ⟨hz.es, hz.ep⟩] at hb
  unfold readR
  split
  · cases hx : (seenF D0.ws l)[b.toNat]? with
    | none => simp
    | some x => exact hb x (List.mem_of_getElem? hx)
  · omega
/-- One act of five. -/
def ActPost (w : World) (D0 : Dst) (G k : Nat) (p : Value) (wx : World) : Prop := ∃ d, p = .pointer (some ⟨d, 0, none⟩) ∧ PK w D0 G (k + 1) d wx
theorem new_any {b wd : Int} (hb : -9223372036854775808 ≤ b ∧ b ≤ 9223372036854775807) (hw : -9223372036854775808 ≤ wd ∧ wd ≤ 9223372036854775807) (A : Option Addr) (n c : Nat) (w : World) {E : Int} (hE : newE b wd n = E) (h : E ≠ 0) :
    Calls Try.prog 16 #[.int .i64 b, .int .i64 wd, .slice A n c] w fun e w' => e = .returned (.tuple #[.pointer none, .int .i64 E]) ∧ w = w' := by
  unfold newE at hE
  by_cases h1 : b < 1 ∨ 16 < b
  · rw [if_pos h1] at hE
    subst hE
    exact new_blocks b wd A n c w h1
  · rw [if_neg h1] at hE
    by_cases h2 : wd < 1 ∨ 16 < wd
    · rw [if_pos h2] at hE
      subst hE
      exact new_width b wd A n c w (by omega) (by omega) h2 hw.1 hw.2
    · rw [if_neg h2] at hE
      by_cases h3 : b < n
      · rw [if_pos h3] at hE
        subst hE
        exact new_many b wd A n c w (by omega) (by omega) (by omega) (by omega) h3
      · rw [if_neg h3] at hE
        exact absurd hE.symm h
theorem mkD_rz (b : Nat) (wd : Int) (l : List Int) (b1 : 1 ≤ b) (b2 : b ≤ 16) (w1 : 1 ≤ wd) (w2 : wd ≤ 16) (hn : l.length ≤ b) : RZ (mkD wd b l) ∧ (mkD wd b l).ws.length = b := by
  have hws : (mkD wd b l).ws = newWs l wd b l.length := by rw [newWs_done]; rfl
  have hlen : (mkD wd b l).ws.length = b := by rw [hws]; exact newWs_len l wd b l.length (Nat.le_refl _) hn
  exact ⟨⟨rfl, rfl, by omega, by omega, w1, w2, fun x hx => newWs_bd l wd b l.length w1 w2 x (by rw [← hws]; exact hx)⟩, hlen⟩
theorem rfx_step {fp fp' : List Nat} {W W' : World} {G : Nat} {v : Value} {D0 : Dst} {l : List RAct} (h : RfX (G :: fp) W v D0 l) (hf : ∀ k, k ∈ fp' → k ∈ fp ∨ W.heap.size ≤ k) (ho : Only fp W W') : RfX (G :: fp') W' v D0 l :=
  fun W2 h2 => h W2 ((ho.more (fun k hk _ => List.mem_cons_of_mem _ hk)).then h2 (fun k hk hl => by
    rcases List.mem_cons.1 hk with rfl | hk
    · exact List.mem_cons_self
    · rcases hf k hk with h4 | h4
      · exact List.mem_cons_of_mem _ h4
      · omega))
/-- A copy is gone on with; what is done with the old disk does not show. -/
theorem pk_copy {w W3 W4 W5 W6 W7 : World} {G d d2 k : Nat} {fp fp2 fp5 fp6 : List Nat} {D0 D5 D6 : Dst} {l : List RAct} {Af Ad : Option Addr} {cf cd : Nat} (hpd : PD w G d fp D0 (runR D0 l) l (.agg #[.slice Af D0.ws.length cf, .int .i64 D0.wd, .slice Ad l.length cd]) W3) (hbk : Blk W3 G 74 #[.slice Af D0.ws.length cf, .int .i64 D0.wd, .slice Ad l.length cd])
    (hT2 : Disk W4 W3.heap.size d2 fp2 (runR D0 l)) (hB4 : Below W3.heap.size W3 W4) (hf5 : ∀ k, k ∈ fp5 → k ∈ fp ∨ W4.heap.size ≤ k) (hO5 : Only fp W4 W5) (hT5 : Disk W5 w.heap.size d fp5 D5) (hf6 : ∀ k, k ∈ fp6 → k ∈ fp5 ∨ W5.heap.size ≤ k) (hO6 : Only fp5 W5 W6) (hT6 : Disk W6 w.heap.size d fp6 D6) (hO7 : Only fp6 W6 W7) (hl : l.length ≤ k) (hok : ROk D0.ws.length l) : PK w D0 G (k + 1) d2 W7 := by
  have hfp : ∀ i ∈ fp, w.heap.size ≤ i ∧ i < W3.heap.size := fun i hi => hpd.t.ge i hi
  have hf2 : ∀ i ∈ fp2, W3.heap.size ≤ i ∧ i < W4.heap.size := fun i hi => hT2.ge i hi
  have hG := hbk.lt
  have s4 := hB4.size
  have s5 := hO5.size
  have n5 : ∀ i ∈ fp2, i ∉ fp5 := fun i hi hm => by
    rcases hf5 i hm with h | h
    · have := hf2 i hi; have := hfp i h; omega
    · have := hf2 i hi; omega
  have n6 : ∀ i ∈ fp2, i ∉ fp6 := fun i hi hm => by
    rcases hf6 i hm with h | h
    · exact n5 i hi h
    · have := hf2 i hi; omega
  have g5 : G ∉ fp5 := fun hm => by
    rcases hf5 G hm with h | h
    · exact hpd.g h
    · omega
  have g6 : G ∉ fp6 := fun hm => by
    rcases hf6 G hm with h | h
    · exact g5 h
    · omega
  have hT := ((hT2.keep hO5 (fun i hi hm => by have := hf2 i hi; have := hfp i hm; omega)).keep hO6 n5).keep hO7 n6
  have hx4 : RfX (G :: (fp2 ++ fp)) W4 (.agg #[.slice Af D0.ws.length cf, .int .i64 D0.wd, .slice Ad l.length cd]) D0 l := (hpd.x.less (fun i hi hlt => by
    rcases List.mem_cons.1 hi with rfl | hi
    · exact List.mem_cons_self
    · rcases List.mem_append.1 hi with hi | hi
      · have := hf2 i hi; omega
      · exact List.mem_cons_of_mem _ hi)).new hB4
  have hx5 := rfx_step (fp' := fp2 ++ fp5) hx4 (fun i hi => by
    rcases List.mem_append.1 hi with hi | hi
    · exact .inl (List.mem_append_left _ hi)
    · rcases hf5 i hi with h | h
      · exact .inl (List.mem_append_right _ h)
      · exact .inr h) (hO5.more (fun i hi _ => List.mem_append_right _ hi))
  have hx6 := rfx_step (fp' := fp2 ++ fp6) hx5 (fun i hi => by
    rcases List.mem_append.1 hi with hi | hi
    · exact .inl (List.mem_append_left _ hi)
    · rcases hf6 i hi with h | h
      · exact .inl (List.mem_append_right _ h)
      · exact .inr h) (hO6.more (fun i hi _ => List.mem_append_right _ hi))
  have hx7 := hx6.only (hO7.more (fun i hi _ => List.mem_cons_of_mem _ (List.mem_append_right _ hi)))
  have b4 := below_and hpd.below hB4
  have b5 := b4.trans (hO5.below b4.size (fun i hi => (hfp i hi).1))
  have b6 := b5.trans (hO6.below b5.size (fun i hi => (hT5.ge i hi).1))
  have b7 := b6.trans (hO7.below b6.size (fun i hi => (hT6.ge i hi).1))
  exact ⟨fp2, l, Af, cf, Ad, cd, ⟨hT.base_le hpd.below.size, hx7.less (fun i hi _ => by
    rcases List.mem_cons.1 hi with rfl | hi
    · exact List.mem_cons_self
    · exact List.mem_cons_of_mem _ (List.mem_append_left _ hi)), fun hm => by have := hf2 G hm; omega, b7, hpd.low⟩, (((hbk.below hB4 hG).only hO5 hpd.g).only hO6 g5).only hO7 g6, by omega, hok⟩
set_option maxRecDepth 100000 in
theorem does_ok (b wd : Int) (hb : -9223372036854775808 ≤ b ∧ b ≤ 9223372036854775807) (hwd : -9223372036854775808 ≤ wd ∧ wd ≤ 9223372036854775807) (A : Option Addr) (n c B : Nat) (l : List Int) (A' : Option Addr) (m c' B' : Nat) (la : List ActV) (w : World)
    (hrd : Reads w B 1 A n (l.map (Value.int .u32))) (hB : B ≤ w.heap.size) (hra : Reads w B' 3 A' m (encAs la)) (hB' : B' ≤ w.heap.size) (hl : ∀ x ∈ l, 0 ≤ x ∧ x ≤ 4294967295) (hla : ∀ x ∈ la, ActV.Ok x) (hn63 : n ≤ 9223372036854775807) (hm63 : m ≤ 9223372036854775807) :
    Calls Try.prog 27 #[.int .i64 b, .int .i64 wd, .slice A n c, .slice A' m c'] w fun e w' => e = .returned (.bool true) ∧ Below w.heap.size w w' := by
  by_cases hmany : 20 < n ∨ 60 < m
  · clear hrd hra hl hla
    by_cases h1 : 20 < n
    · have u1 : 20 < (n : Int) := by omega
      clear hmany
      go_enter Try.func27, Try.ntmps27
      go_wp2
      go_ret
      exact ⟨rfl, Below.refl _ _⟩
    · have u1 : ¬ 20 < (n : Int) := by omega
      have u2 : 60 < (m : Int) := by omega
      clear hmany
      go_enter Try.func27, Try.ntmps27
      go_wp2
      go_ret
      exact ⟨rfl, Below.refl _ _⟩
  · have u1 : ¬ 20 < (n : Int) := by omega
    have u2 : ¬ 60 < (m : Int) := by omega
    have hn20 : n ≤ 20 := by omega
    have hm60 : m ≤ 60 := by omega
    clear hmany
    obtain ⟨i36, hi36, hz36, hs36, hy36⟩ := info_parts info36
    obtain ⟨i3, hi3, hz3, hs3, hy3⟩ := info_parts info3
    have hll : l.length = n := by have := hrd.1; simpa using this
    replace hl := Lib.hid hl
    replace hla := Lib.hid hla
    replace hll := Lib.hid hll
    go_enter Try.func27, Try.ntmps27
    go_wp2_with fail
    go_loopw [9, 10, 42] (fun v9 v10 i wr => ∃ j : Nat, j ≤ n ∧ i = .int .i64 j ∧ Below w.heap.size w wr ∧ wr.ownsRow w.heap.size 36 1 v9 j ((l.take j).map (Value.int .u32)) ∧ wr.ownsRow w.heap.size 3 1 v10 j ((l.take j).map (Value.int .i64))) (fun _ _ i _ => n - (intOf i).toNat)
    case atStart => exact ⟨0, Nat.zero_le _, rfl, Below.refl _ _, by simpa using World.ownsRow_nil w w.heap.size 36 1, by simpa using World.ownsRow_nil w w.heap.size 3 1⟩
    case round =>
      obtain ⟨j, hj, rfl, hBr, hr9, hr10⟩ := hrel
      obtain ⟨A9, c9, rfl⟩ := own_form hr9
      obtain ⟨A10, c10, rfl⟩ := own_form hr10
      by_cases hlt : j < n
      · obtain ⟨ad, x, hA, hadb, hx, q0⟩ := reads_first (hrd.below (hBr.mono hB)) hlt
        subst hA
        have hxb := hl.out x (List.mem_of_getElem? hx)
        obtain ⟨x0, x1⟩ := hxb
        have t1 : (j : Int) < (n : Int) := by omega
        have t0 : 0 ≤ (j : Int) := by omega
        have hsn : l.take (j + 1) = l.take j ++ [x] := take_snoc' hx
        have hszr := hBr.size
        have hr9a := row_new hr9 ((Below.refl _ _).alloc (Nat.le_refl _) (.cells #[.int .u32 x] 36))
        have hr10a := row_new hr10 ((Below.refl _ _).alloc (Nat.le_refl _) (.cells #[.int .u32 x] 36))
        have hBa := hBr.alloc hBr.size (.cells #[.int .u32 x] 36)
        have hfin : ∀ (v9 : Value) (w3 : World) (v10 : Value) (w4 : World), w3.ownsRow w.heap.size 36 1 v9 (j + 1) ((l.take j).map (Value.int .u32) ++ [.int .u32 x]) → (wr.alloc (.cells #[.int .u32 x] 36)).grownBy w3 (Value.slice A9 j c9).ownBlock →
            w4.ownsRow w.heap.size 3 1 v10 (j + 1) ((l.take j).map (Value.int .i64) ++ [.int .i64 x]) → (w3.alloc (.cells #[.int .i64 x] 3)).grownBy w4 (Value.slice A10 j c10).ownBlock → w3.ownsRow w.heap.size 3 1 (.slice A10 j c10) j ((l.take j).map (Value.int .i64)) →
            Below w.heap.size w w4 ∧ w4.ownsRow w.heap.size 36 1 v9 (j + 1) ((l.take (j + 1)).map (Value.int .u32)) ∧ w4.ownsRow w.heap.size 3 1 v10 (j + 1) ((l.take (j + 1)).map (Value.int .i64)) := by
          intro v9 w3 v10 w4 h9 hg9 h10 hg10 hr3
          have hB3 := own_below hBa (by rw [World.size_alloc]; omega) hr9a hg9
          have hB3s := hB3.size
          have h9a := row_new h9 ((Below.refl _ _).alloc (Nat.le_refl _) (.cells #[.int .i64 x] 3))
          have hr3a := row_new hr3 ((Below.refl _ _).alloc (Nat.le_refl _) (.cells #[.int .i64 x] 3))
          have ho : Only (Value.slice A10 j c10).ownBlock.toList (w3.alloc (.cells #[.int .i64 x] 3)) w4 := (Only.refl _ _).grown hg10 (fun k hk => .inl (by simp [hk]))
          refine ⟨own_below (hB3.alloc hB3s _) (by rw [World.size_alloc]; omega) hr3a hg10, ?_, own_cast h10 rfl (by rw [hsn]; simp)⟩
          have := own_only h9a ho (fun k hk hm => own_own_ne h9a hr3a (by decide) hk (by simpa using hm))
          exact own_cast this rfl (by rw [hsn]; simp)
        have hmid : ∀ (w3 : World), (wr.alloc (.cells #[.int .u32 x] 36)).grownBy w3 (Value.slice A9 j c9).ownBlock → w3.ownsRow w.heap.size 3 1 (.slice A10 j c10) j ((l.take j).map (Value.int .i64)) := by
          intro w3 hg9
          have ho : Only (Value.slice A9 j c9).ownBlock.toList (wr.alloc (.cells #[.int .u32 x] 36)) w3 := (Only.refl _ _).grown hg9 (fun k hk => .inl (by simp [hk]))
          exact own_only hr10a ho (fun k hk hm => own_own_ne hr10a hr9a (by decide) hk (by simpa using hm))
        have hbs : ∀ (w3 : World), (wr.alloc (.cells #[.int .u32 x] 36)).grownBy w3 (Value.slice A9 j c9).ownBlock → w.heap.size ≤ w3.heap.size := fun w3 hg9 => (own_below hBa (by rw [World.size_alloc]; omega) hr9a hg9).size
        clear hx hsn hr9 hr10
        replace hfin := Lib.hid hfin
        replace hmid := Lib.hid hmid
        replace hbs := Lib.hid hbs
        replace hr9a := Lib.hid hr9a
        replace hr10a := Lib.hid hr10a
        go_wp2_with (first
          | (at_builtin; refine wpList_append_any _ rfl _ _ 26 rfl w.heap.size 36 i36 _ 1 4 Try.underlying26 hi36 hz36 hs36 hy36 rfl (by omega) (.slice A9 j c9) j ((l.take j).map (Value.int .u32)) rfl hr9a.out (wr.heap.size + 1) (some ⟨wr.heap.size, 0, none⟩) 1 1 [.int .u32 x] rfl (lit_reads1 wr 36 _) (by simp [Value.oneCell']) (by simp only [maxLen]; omega) (by omega) (by rw [World.size_alloc]; omega) ?_; intro v9 w3 hown9 hgrow9 hat9; have hm3 := hmid.out w3 hgrow9; have hb3 := hbs.out w3 hgrow9; have hm3a := row_new hm3 ((Below.refl _ _).alloc (Nat.le_refl _) (.cells #[.int .i64 x] 3)))
          | (at_builtin; refine wpList_append_any _ rfl _ _ 41 rfl w.heap.size 3 i3 _ 1 8 Try.underlying41 hi3 hz3 hs3 hy3 rfl (by omega) (.slice A10 j c10) j ((l.take j).map (Value.int .i64)) rfl hm3a (w3.heap.size + 1) (some ⟨w3.heap.size, 0, none⟩) 1 1 [.int .i64 x] rfl (lit_reads1 w3 3 _) (by simp [Value.oneCell']) (by simp only [maxLen]; omega) (by omega) (by rw [World.size_alloc]; omega) ?_; intro v10 w4 hown10 hgrow10 hat10; have hq := hfin.out v9 w3 v10 w4 hown9 hgrow9 hown10 hgrow10 hm3; replace hq := Lib.hid hq))
        go_roundw
        case rel => exact ⟨j + 1, by omega, by go_num, hq.out⟩
        case measure => simp [intOf]; omega
      · obtain rfl : j = n := by omega
        rw [List.take_of_length_le (by rw [hll.out]; exact Nat.le_refl _)] at hr9 hr10
        obtain ⟨E, hE⟩ : ∃ E, newE b wd j = E := ⟨_, rfl⟩
        by_cases hE0 : E = 0
        · subst hE0
          have hgood : (1 ≤ b ∧ b ≤ 16) ∧ (1 ≤ wd ∧ wd ≤ 16) ∧ (j : Int) ≤ b := by
            unfold newE at hE
            split at hE
            · omega
            · split at hE
              · omega
              · split at hE
                · omega
                · omega
          obtain ⟨⟨g1, g2⟩, ⟨g3, g4⟩, g5⟩ := hgood
          obtain ⟨bn, rfl⟩ : ∃ bn : Nat, b = (bn : Int) := ⟨b.toNat, by omega⟩
          obtain ⟨hz, hwl⟩ := mkD_rz bn wd l (by omega) (by omega) g3 g4 (by rw [hll.out]; omega)
          have h16 := new_disk (w := wr) bn wd A9 j c9 wr.heap.size l (Reads.of_own hr9) (Nat.le_refl _) (by omega) (by omega) g3 g4 (by omega) hl.out
          have h39 := fun (W2 : World) (fpx : List Nat) (hfx : ∀ k ∈ fpx, k < W2.heap.size) (hB2 : Below wr.heap.size wr W2) => rnew_ok (w := W2) fpx hfx bn wd A10 j c10 wr.heap.size l ((Reads.of_own hr10).below hB2) hB2.size (by omega) (by omega) g3 g4 (by omega) hl.out
          obtain ⟨D0, hD0⟩ : ∃ D0, mkD wd bn l = D0 := ⟨_, rfl⟩
          rw [hD0] at hz hwl h16
          simp only [hD0] at h39
          clear hD0 hE hwl
          replace h16 := Lib.hid h16
          replace h39 := Lib.hid h39
          replace hz := Lib.hid hz
          have hrw0 := hr9
          replace hrw0 := Lib.hid hrw0
          have hkw : ∀ k ∈ (Value.slice A9 j c9).ownBlock.toList, w.heap.size ≤ k ∧ k < wr.heap.size := fun k hk => hr9.lt k (by simpa using hk)
          replace hkw := Lib.hid hkw
          clear hr9 hr10
          go_wp2_with (first
            | (go_at_call 16; (with_reducible refine h16.out.mono ?_); rintro e W2 ⟨d, fp0, rfl, hT2, hB2⟩; clear h16; have h39w := h39.out W2 ((Value.slice A9 j c9).ownBlock.toList ++ fp0) (fun k hk => (List.mem_append.1 hk).elim (fun hk => by have := hkw.out k hk; have := hB2.size; omega) (fun hk => (hT2.ge k hk).2)) hB2; replace h39w := Lib.hid h39w)
            | (go_at_call 39; (with_reducible refine h39w.out.mono ?_); rintro e W3 ⟨v3, rfl, hX3, hB3⟩; clear h39w; obtain ⟨Af, cf, Ad, cd, rfl⟩ := hX3.shape; rw [show ([] : List RAct).length = 0 from rfl] at hX3 ⊢))
          have hBn : Below W3.heap.size W3 (W3.alloc (.cells #[.slice Af D0.ws.length cf, .int .i64 D0.wd, .slice Ad 0 cd] 74)) := (Below.refl _ _).alloc (Nat.le_refl _) _
          have hX4 := (hX3.less (fq := (Value.slice A9 j c9).ownBlock.toList ++ (W3.heap.size :: fp0)) (fun k hk hkl => by
            rcases List.mem_append.1 hk with hk | hk
            · exact List.mem_append_left _ hk
            · rcases List.mem_cons.1 hk with rfl | hk
              · omega
              · exact List.mem_append_right _ hk)).new hBn
          have hT4 := (hT2.new hB3).new hBn
          have hb4 := Blk.new W3 74 #[.slice Af D0.ws.length cf, .int .i64 D0.wd, .slice Ad 0 cd]
          have hBr4 := below_and (below_and hB2 hB3) hBn
          have hGw : wr.heap.size ≤ W3.heap.size := (below_and hB2 hB3).size
          have hGf : ∀ k ∈ fp0, k < W3.heap.size := fun k hk => ((hT2.new hB3).ge k hk).2
          have hfg : ∀ k ∈ fp0, wr.heap.size ≤ k := fun k hk => (hT2.ge k hk).1
          have hrw4 := row_new hrw0.out hBr4
          generalize W3.alloc (.cells #[.slice Af D0.ws.length cf, .int .i64 D0.wd, .slice Ad 0 cd] 74) = W4 at *
          generalize hGG : W3.heap.size = G at *
          clear hX3 hT2 hB2 hB3 hBn hGG hrw0
          go_loopw [84] (fun i wx => ∃ q : Nat, q ≤ j ∧ i = .int .i64 q ∧ Only (Value.slice A9 j c9).ownBlock.toList W4 wx ∧ ∃ ws : List Int, wx.ownsRow w.heap.size 36 1 (.slice A9 j c9) j (ws.map (Value.int .u32))) (fun i _ => j - (intOf i).toNat)
          case atStart => exact ⟨0, Nat.zero_le _, rfl, Only.refl _ _, l, hrw4⟩
          case round =>
            obtain ⟨q, hq, rfl, hOq, ws, hrwq⟩ := hrel
            by_cases hlt2 : q < j
            · obtain ⟨g, cap, hv, _, _⟩ := hrwq.form (by omega)
              have hA9 : A9 = some ⟨g, 0, none⟩ := by injection hv
              subst hA9
              have v1 : (q : Int) < (j : Int) := by omega
              have v0 : 0 ≤ (q : Int) := by omega
              have hwsl : ws.length = j := by have := hrwq.1; simpa using this
              have hc := hrwq.cellAt q (by omega)
              rw [List.getElem?_map, List.getElem?_eq_getElem (by omega), Option.map_some] at hc
              have hf := hrwq.frozenAt q
              have hst := (hrwq.stored q (.int .u32 99)).1
              rw [← List.map_set] at hst
              have hO2 := hOq.setCell (p := ⟨g, q, none⟩) (.inl (by simp [Value.ownBlock])) (.int .u32 99)
              generalize ws[q]'(by omega) = old at hc
              go_wp2_with fail
              go_roundw
              case rel => exact ⟨q + 1, by omega, by go_num, hO2, ws.set q 99, hst⟩
              case measure => simp [intOf]; omega
            · obtain rfl : q = j := by omega
              have hPK : PK w D0 G 0 d wr := by
                refine ⟨fp0, [], Af, cf, Ad, cd, ⟨(hT4.keep hOq (fun k hk hm => by have := hfg k hk; have := (hkw.out k hm).2; omega)).base_le hBr.size, (hX4.only (hOq.more (fun k hk _ => List.mem_append_left _ hk))).less (fun k hk _ => List.mem_append_right _ hk), fun hm => by have := hGf G hm; omega, ?_, by have := hBr.size; omega⟩, hb4.only hOq (fun hm => by have := (hkw.out G hm).2; omega), Nat.le_refl _, by intro a ha; cases ha⟩
                have hb5 := below_and hBr hBr4
                exact hb5.trans (hOq.below hb5.size (fun k hk => (hkw.out k hk).1))
              clear hOq hrwq hX4 hT4 hb4 hBr4 hrw4 hkw hfg hGf hGw hBr
              go_wp2_with fail
              go_loopw [13, 93] (fun p i wr => ∃ (k d : Nat), k ≤ m ∧ i = .int .i64 k ∧ p = .pointer (some ⟨d, 0, none⟩) ∧ PK w D0 G k d wr) (fun _ i _ => m - (intOf i).toNat)
              case atStart => exact ⟨0, d, Nat.zero_le _, rfl, rfl, hPK⟩
              case round =>
                clear hPK
                obtain ⟨k, d, hk, rfl, rfl, hP⟩ := hrel
                by_cases hlt3 : k < m
                · obtain ⟨fp, l1, Af, cf, Ad, cd, hpd0, hbk0, hlk, hok⟩ := hP
                  obtain ⟨ad, ⟨kd, b1, x1⟩, hA, hadb, hx, q0, q1, q2⟩ := reads_act (hra.below (hpd0.below.mono hB')) hlt3
                  subst hA
                  obtain ⟨hk0, hk1, hb0, hb1, hx0, hx1⟩ := hla.out _ (List.mem_of_getElem? hx)
                  dsimp only at q0 q1 q2 hk0 hk1 hb0 hb1 hx0 hx1
                  have v1 : (k : Int) < (m : Int) := by omega
                  have v0 : 0 ≤ (k : Int) := by omega
                  obtain ⟨q, hq⟩ : ∃ q, kd % 8 = q := ⟨_, rfl⟩
                  have hq0 : 0 ≤ q := by omega
                  have hq1 : q ≤ 7 := by omega
                  go_upto_block 6 with (fail)
                  have hBn : Below wr.heap.size wr (wr.alloc (.cells #[.int .u8 kd, .int .i64 b1, .int .u32 x1] 31)) := (Below.refl _ _).alloc (Nat.le_refl _) _
                  have hpd := hpd0.new hBn
                  have hbk := hbk0.below hBn hbk0.lt
                  have hb9 := Blk.new wr 31 #[.int .u8 kd, .int .i64 b1, .int .u32 x1]
                  have h9 : ∀ i ∈ fp, i ≠ wr.heap.size := fun i hm => by have := (hpd0.t.ge _ hm).2; omega
                  have hGw := hbk0.lt
                  rw [hq]
                  replace hq := Lib.hid hq
                  generalize wr.alloc (.cells #[.int .u8 kd, .int .i64 b1, .int .u32 x1] 31) = W3 at *
                  generalize wr.heap.size = g9 at *
                  clear hpd0 hbk0 hBn q0 q1 q2 hx
                  go_cut [13] from 97 to 172 (fun b13 wx => ActPost w D0 G k b13 wx)
                  case first =>
                    have hG := hbk.lt
                    have hri := hz.out.ri hok (by omega)
                    have y0 := hb9.cell 0
                    have y1 := hb9.cell 1
                    have y2 := hb9.cell 2
                    have x0 := hbk.cell 0
                    have x1' := hbk.cell 1
                    have x2 := hbk.cell 2
                    simp only [List.getElem?_toArray, List.getElem?_cons_succ, List.getElem?_cons_zero] at x0 x1' x2 y0 y1 y2
                    by_cases hq4 : q = 4
                    · obtain rfl : q = 4 := hq4
                      have hlen : (l1 ++ [((2 : Int), (0 : Int), (0 : Int))]).length = l1.length + 1 := by simp
                      have h40 := rbarrier hpd.x (hpd.fpl hG) hri
                      obtain ⟨hbe, hbd⟩ := bar_is hz.out (l := l1) (by omega)
                      replace h40 := Lib.hid h40
                      go_wp2_with (first
                        | (go_at_call 40; (with_reducible refine h40.out.mono ?_); rintro e W4 ⟨v5, rfl, hx5, hB5⟩; clear h40; obtain ⟨A5, c5, S5, t5, rfl⟩ := hx5.shape; rw [hlen] at hx5 ⊢; have hBa : Below W4.heap.size W4 (W4.alloc (.cells #[.slice A5 D0.ws.length c5, .int .i64 D0.wd, .slice S5 (l1.length + 1) t5] 74)) := (Below.refl _ _).alloc (Nat.le_refl _) _; have hpd6 := (hpd.new hB5).new hBa; have hx6 := hx5.new hBa; have hbk6 := (hbk.below hB5 hbk.lt).below hBa (hbk.below hB5 hbk.lt).lt; have hb20 := Blk.new W4 74 #[.slice A5 D0.ws.length c5, .int .i64 D0.wd, .slice S5 (l1.length + 1) t5]; have h20n : ∀ k ∈ fp, k ≠ W4.heap.size := fun k hk => by have := ((hpd.new hB5).t.ge k hk).2; omega
                           have h26 := barrier_disk hpd6.t; rw [hbe, hbd] at h26; replace h26 := Lib.hid h26; clear x0 x1' x2 y0 y1 y2)
                        | (go_at_call 26; (with_reducible refine h26.out.mono ?_); rintro e W7 ⟨rfl, hT7, hO7⟩; clear h26; have hpd7 := hpd6.wrote hbk6.lt hT7 (fun k hk => .inl hk) hO7; have hx7 := hx6.only (hO7.more (fun k hk _ => List.mem_cons_of_mem G hk)); have hbk7 := hbk6.only hO7 hpd.g; have hb27 := hb20.only hO7 (fun hm => h20n _ hm rfl); have m0 := hb27.cell 0; have m1 := hb27.cell 1; have m2 := hb27.cell 2; simp only [List.getElem?_toArray, List.getElem?_cons_succ, List.getElem?_cons_zero] at m0 m1 m2; have x0 := hbk7.cell 0; have x1 := hbk7.cell 1; have x2 := hbk7.cell 2; simp only [List.getElem?_toArray, List.getElem?_cons_succ, List.getElem?_cons_zero] at x0 x1 x2; have xf0 := hbk7.frozen 0; have xf1 := hbk7.frozen 1; have xf2 := hbk7.frozen 2))
                      go_meet
                      refine ⟨d, rfl, fp, l1 ++ [(2, 0, 0)], A5, c5, S5, t5, ?_, ?_, ?_, ?_⟩
                      · rw [hlen]; exact hpd7.store hx7
                      · rw [hlen]; exact blk_store hbk7
                      · rw [hlen]; omega
                      · exact hok.snoc ⟨.inr (.inl rfl), by show (0 : Int) ≤ 0; omega, by have := hz.out.n1; show (0 : Int) < _; omega, by show (0 : Int) ≤ 0; omega, by show (0 : Int) ≤ 65535; omega⟩
                    · by_cases hq5 : q = 5
                      · obtain rfl : q = 5 := hq5
                        have hlen : (l1 ++ [((3 : Int), (0 : Int), (0 : Int))]).length = l1.length + 1 := by simp
                        have h20 := flush_disk hpd.t
                        rw [flu_is] at h20
                        replace h20 := Lib.hid h20
                        go_wp2_with (first
                          | (go_at_call 20; (with_reducible refine h20.out.mono ?_); rintro e W4 ⟨rfl, fp7, hT4, hf4, hO4⟩; clear h20; have hpd4 := hpd.wrote hG hT4 hf4 hO4; have hbk4 := hbk.only hO4 hpd.g; clear x0 x1' x2 y0 y1 y2; have x0 := hbk4.cell 0; have x1 := hbk4.cell 1; have x2 := hbk4.cell 2; simp only [List.getElem?_toArray, List.getElem?_cons_succ, List.getElem?_cons_zero] at x0 x1 x2; have h41 := rflush hpd4.x (hpd4.fpl hbk4.lt) hri; replace h41 := Lib.hid h41)
                          | (go_at_call 41; (with_reducible refine h41.out.mono ?_); rintro e W5 ⟨v5, rfl, hx5, hB5⟩; clear h41 x0 x1 x2; obtain ⟨A5, c5, S5, t5, rfl⟩ := hx5.shape; rw [hlen] at hx5 ⊢; have hpd7 := hpd4.new hB5; have hbk7 := hbk4.below hB5 hbk4.lt; have z0 := hbk7.cell 0; have z1 := hbk7.cell 1; have z2 := hbk7.cell 2; simp only [List.getElem?_toArray, List.getElem?_cons_succ, List.getElem?_cons_zero] at z0 z1 z2; have zf0 := hbk7.frozen 0; have zf1 := hbk7.frozen 1; have zf2 := hbk7.frozen 2))
                        go_meet
                        refine ⟨d, rfl, fp7, l1 ++ [(3, 0, 0)], A5, c5, S5, t5, ?_, ?_, ?_, ?_⟩
                        · rw [hlen]; exact hpd7.store hx5
                        · rw [hlen]; exact blk_store hbk7
                        · rw [hlen]; omega
                        · exact hok.snoc ⟨.inr (.inr rfl), by show (0 : Int) ≤ 0; omega, by have := hz.out.n1; show (0 : Int) < _; omega, by show (0 : Int) ≤ 0; omega, by show (0 : Int) ≤ 65535; omega⟩
                      · by_cases hq6 : q = 6
                        · obtain rfl : q = 6 := hq6
                          obtain ⟨y, hy⟩ : ∃ y, readR D0 l1 b1 = y := ⟨_, rfl⟩
                          have hyb := readR_bd hpd.t.ok hz.out b1
                          rw [hy] at hyb
                          obtain ⟨hy0, hy1⟩ := hyb
                          have hY18 : ∀ x : Ext W3, Calls Try.prog 18 #[.pointer (some ⟨d, 0, none⟩), .int .i64 b1] x.w fun e w' => e = .returned (.int .u32 y) ∧ Below x.w.heap.size x.w w' := fun x => by
                            have := read_disk (hpd.t.new x.below) b1 ⟨hb0, hb1⟩
                            rwa [readD_is hz.out, hy] at this
                          have hY42 : ∀ x : Ext W3, Calls Try.prog 42 #[.agg #[.slice Af D0.ws.length cf, .int .i64 D0.wd, .slice Ad l1.length cd], .int .i64 b1] x.w fun e w' => e = .returned (.int .i64 y) ∧ Below x.w.heap.size x.w w' := fun x => hy ▸ rread (hpd.x.ref.new x.below) hri b1
                          have z0 := fun x : Ext W3 => (hbk.below x.below hbk.lt).cell 0
                          have z1 := fun x : Ext W3 => (hbk.below x.below hbk.lt).cell 1
                          have z2 := fun x : Ext W3 => (hbk.below x.below hbk.lt).cell 2
                          have n1 := fun x : Ext W3 => (hb9.below x.below hb9.lt).cell 1
                          simp only [List.getElem?_toArray, List.getElem?_cons_succ, List.getElem?_cons_zero] at z0 z1 z2 n1
                          replace hY18 := Lib.hid hY18
                          replace hY42 := Lib.hid hY42
                          have hPKn : PK w D0 G (k + 1) d W3 := ⟨fp, l1, Af, cf, Ad, cd, hpd, hbk, by omega, hok⟩
                          replace hPKn := Lib.hid hPKn
                          clear x0 x1' x2 y0 y1 y2 hb9 hbk hpd hy
                          go_wp2_with fail
                          refine wp_region_grown (by kernel_rfl) (by kernel_rfl) (by kernel_rfl) ?_
                          repeat (go_big_quiet_step (first
                            | (go_at_call 18; with_reducible exact grown_of (hY18.out _))
                            | (go_at_call 42; with_reducible exact grown_of (hY42.out _))))
                          refine wpQuiet_nil ?_
                          rintro _ ⟨x, rfl⟩
                          go_wp2_with fail
                          go_meet
                          exact ⟨d, rfl, hPKn.out.new x.below⟩
                        · by_cases hq7 : q = 7
                          · obtain rfl : q = 7 := hq7
                            have h22 := copy_disk hpd.t
                            replace h22 := Lib.hid h22
                            clear x0 x1' x2 y0 y1 y2
                            go_wp2_with (first
                              | (go_at_call 22; (with_reducible refine h22.out.mono ?_); rintro e W4 ⟨d2, fp2, rfl, hT2, hB4⟩; clear h22; have h17 := write_disk (hpd.t.new hB4) 0 1 (by omega) (by omega); replace h17 := Lib.hid h17)
                              | (go_at_call 17; (with_reducible refine h17.out.mono ?_); rintro e W5 ⟨rfl, fp5, hT5, hf5, hO5⟩; clear h17; have h20 := flush_disk hT5; replace h20 := Lib.hid h20)
                              | (go_at_call 20; (with_reducible refine h20.out.mono ?_); rintro e W6 ⟨rfl, fp6, hT6, hf6, hO6⟩; clear h20; have h26 := barrier_disk hT6; replace h26 := Lib.hid h26)
                              | (go_at_call 26; (with_reducible refine h26.out.mono ?_); rintro e W7 ⟨rfl, hT7, hO7⟩; clear h26))
                            go_meet
                            exact ⟨d2, rfl, pk_copy hpd hbk hT2 hB4 hf5 hO5 hT5 hf6 hO6 hT6 hO7 (by omega) hok⟩
                          · have hq4b : (q == 4) = false := by simpa using hq4
                            have hq5b : (q == 5) = false := by simpa using hq5
                            have hq6b : (q == 6) = false := by simpa using hq6
                            have hq7b : (q == 7) = false := by simpa using hq7
                            have h43 := rwrite hpd.x (hpd.fpl hG) hri b1 x1 hx0 hx1
                            obtain ⟨hwo, hwe, hwt⟩ := wrt_is hz.out (l := l1) (by omega) b1 x1
                            obtain ⟨hwok, hwlen⟩ := wrL_ok hz.out hok b1 x1
                            obtain ⟨ob, hob⟩ : ∃ ob, decide (0 ≤ b1 ∧ b1 < D0.ws.length) = ob := ⟨_, rfl⟩
                            obtain ⟨L, hL⟩ : ∃ L, wrL D0 l1 b1 x1 = L := ⟨_, rfl⟩
                            rw [hob] at h43 hwo
                            rw [hL] at h43 hwt hwok hwlen
                            have hlen : L.length = L.length := rfl
                            clear hob hL hq4 hq5 hq6 hq7
                            replace h43 := Lib.hid h43
                            go_wp2_with (first
                              | (go_at_call 43; (with_reducible refine h43.out.mono ?_); rintro e W4 ⟨v5, rfl, hx5, hB5⟩; clear h43; obtain ⟨A5, c5, S5, t5, rfl⟩ := hx5.shape; have hBa : Below W4.heap.size W4 (W4.alloc (.cells #[.slice A5 D0.ws.length c5, .int .i64 D0.wd, .slice S5 L.length t5] 74)) := (Below.refl _ _).alloc (Nat.le_refl _) _; have hpd6 := (hpd.new hB5).new hBa; have hx6 := hx5.new hBa; have hbk6 := (hbk.below hB5 hbk.lt).below hBa (hbk.below hB5 hbk.lt).lt; have hb20 := Blk.new W4 74 #[.slice A5 D0.ws.length c5, .int .i64 D0.wd, .slice S5 L.length t5]; have h20n : ∀ k ∈ fp, k ≠ W4.heap.size := fun k hk => by have := ((hpd.new hB5).t.ge k hk).2; omega
                                 have hb96 := (hb9.below hB5 hb9.lt).below hBa (hb9.below hB5 hb9.lt).lt
                                 have h17 := write_disk hpd6.t b1 x1 hx0 hx1; rw [hwo, hwe, hwt] at h17; replace h17 := Lib.hid h17; clear x0 x1' x2 y0 y1 y2; have y0 := hb96.cell 0; have y1 := hb96.cell 1; have y2 := hb96.cell 2; simp only [List.getElem?_toArray, List.getElem?_cons_succ, List.getElem?_cons_zero] at y0 y1 y2)
                              | (go_at_call 17; (with_reducible refine h17.out.mono ?_); rintro e W7 ⟨rfl, fp7, hT7, hf7, hO7⟩; clear h17; have hpd7 := hpd6.wrote hbk6.lt hT7 hf7 hO7; have hx7 := rfx_step hx6 hf7 hO7; have hbk7 := hbk6.only hO7 hpd.g; have hb27 := hb20.only hO7 (fun hm => h20n _ hm rfl); have m0 := hb27.cell 0; have m1 := hb27.cell 1; have m2 := hb27.cell 2; simp only [List.getElem?_toArray, List.getElem?_cons_succ, List.getElem?_cons_zero] at m0 m1 m2; have x0 := hbk7.cell 0; have x1 := hbk7.cell 1; have x2 := hbk7.cell 2; simp only [List.getElem?_toArray, List.getElem?_cons_succ, List.getElem?_cons_zero] at x0 x1 x2; have xf0 := hbk7.frozen 0; have xf1 := hbk7.frozen 1; have xf2 := hbk7.frozen 2))
                            go_meet
                            exact ⟨d, rfl, fp7, L, A5, c5, S5, t5, hpd7.store hx7, blk_store hbk7, by omega, hwok⟩
                  case rest =>
                    obtain ⟨d3, rfl, fp7, l7, A7, c7, S7, t7, hpd7, hbk7, hl7, hok7⟩ := hcut
                    have hri7 := hz.out.ri hok7 (by omega)
                    have hlen7 := run_len D0 ⟨hz.out.es, hz.out.ep⟩ l7
                    have h12 := kept_disk hpd7.t
                    have hC13 := fun W (hW : Below wc.heap.size wc W) => cache_disk (hpd7.t.new hW)
                    have hnk : (runR D0 l7).ws.length = D0.ws.length := (run_wd l7 D0).2
                    have hn16 := hz.out.n2
                    rw [hnk] at h12
                    obtain ⟨nk, hnk2⟩ : ∃ nk, D0.ws.length = nk := ⟨_, rfl⟩
                    obtain ⟨ne, hne2⟩ : ∃ ne, (runR D0 l7).es.length = ne := ⟨_, rfl⟩
                    rw [hnk2] at h12 hn16
                    rw [hne2] at hlen7
                    simp only [hne2] at hC13
                    have hne3 : ne ≤ 1000 := by omega
                    replace h12 := Lib.hid h12
                    replace hC13 := Lib.hid hC13
                    replace hnk2 := Lib.hid hnk2
                    replace hne2 := Lib.hid hne2
                    replace hnk := Lib.hid hnk
                    replace hlen7 := Lib.hid hlen7
                    clear hpd hbk hb9 h9
                    go_wp2_with (first
                      | (go_at_call 12; (with_reducible refine h12.out.mono ?_); rintro e Wa ⟨A3, c3, rfl, hr3, hBa⟩; clear h12; have h13 := hC13.out Wa hBa; replace h13 := Lib.hid h13)
                      | (go_at_call 13; (with_reducible refine h13.out.mono ?_); rintro e Wb ⟨A2, c2, rfl, hr2, hBb⟩; clear h13))
                    have hBab := below_and hBa hBb
                    have hr3b := row_new hr3 hBb
                    have hr2b := own_base hr2 hBa.size
                    clear hr3 hr2 hBa hBb
                    go_loopw [179] (fun i wr => ∃ q : Nat, q ≤ nk ∧ i = .int .i64 q ∧ Below wc.heap.size wc wr ∧ (∃ ws : List Int, wr.ownsRow wc.heap.size 36 1 (.slice A3 nk c3) nk (ws.map (Value.int .u32))) ∧ ∃ xs : List Value, wr.ownsRow wc.heap.size 38 3 (.slice A2 ne c2) ne xs) (fun i _ => nk - (intOf i).toNat)
                    case atStart => exact ⟨0, Nat.zero_le _, rfl, hBab, ⟨_, hr3b⟩, _, hr2b⟩
                    case round =>
                      clear hBab hr3b hr2b
                      obtain ⟨z, hzl, rfl, hBq, ⟨ws, hw3⟩, xs, hw2⟩ := hrel
                      by_cases hlt4 : z < nk
                      · obtain ⟨g, cap, hv, _, _⟩ := hw3.form (by omega)
                        have hA3 : A3 = some ⟨g, 0, none⟩ := by injection hv
                        subst hA3
                        have z1 : (z : Int) < (nk : Int) := by omega
                        have z0 : 0 ≤ (z : Int) := by omega
                        have hwsl : ws.length = nk := by have := hw3.1; simpa using this
                        have hc := hw3.cellAt z (by omega)
                        rw [List.getElem?_map, List.getElem?_eq_getElem (by omega), Option.map_some] at hc
                        have hf := hw3.frozenAt z
                        have hst := (hw3.stored z (.int .u32 99)).1
                        rw [← List.map_set] at hst
                        have hgb := hw3.lt g rfl
                        have hO4 : Only [g] wr (wr.setCell ⟨g, z, none⟩ (.int .u32 99)) := (Only.refl _ _).setCell (.inl (by simp)) _
                        have hw2' := own_only hw2 hO4 (fun k hk hm => by rw [List.mem_singleton.1 hm] at hk; exact own_own_ne hw2 hw3 (by decide) hk rfl)
                        have hB4 := hBq.setCell (p := ⟨g, z, none⟩) hgb.1 (.int .u32 99)
                        generalize ws[z]'(by omega) = old at hc
                        clear hw2 hw3
                        go_wp2_with fail
                        go_roundw
                        case rel => exact ⟨z + 1, by omega, by go_num, hB4, ⟨ws.set z 99, hst⟩, xs, hw2'⟩
                        case measure => simp [intOf]; omega
                      · have z1 : ¬ (z : Int) < (nk : Int) := by omega
                        clear hw3
                        go_wp2_with fail
                        go_loopw [188] (fun i wr => ∃ q : Nat, q ≤ ne ∧ i = .int .i64 q ∧ Below wc.heap.size wc wr ∧ ∃ xs : List Value, wr.ownsRow wc.heap.size 38 3 (.slice A2 ne c2) ne xs) (fun i _ => ne - (intOf i).toNat)
                        case atStart => exact ⟨0, Nat.zero_le _, rfl, hBq, xs, hw2⟩
                        case round =>
                          clear hBq hw2
                          obtain ⟨y, hyl, rfl, hBq, xs2, hw2⟩ := hrel
                          by_cases hlt5 : y < ne
                          · obtain ⟨g, cap, hv, _, _⟩ := hw2.form (by omega)
                            have hA2 : A2 = some ⟨g, 0, none⟩ := by injection hv
                            subst hA2
                            have y1 : (y : Int) < (ne : Int) := by omega
                            have y0 : 0 ≤ (y : Int) := by omega
                            have hxl : xs2.length = ne * 3 := hw2.1
                            have hc0 := hw2.cellAt (y * 3) (by omega)
                            have hc1 := hw2.cellAt (y * 3 + 1) (by omega)
                            have hc2 := hw2.cellAt (y * 3 + 2) (by omega)
                            rw [List.getElem?_eq_getElem (by omega)] at hc0 hc1 hc2
                            have hf0 := hw2.frozenAt (y * 3)
                            have hf1 := hw2.frozenAt (y * 3 + 1)
                            have hf2 := hw2.frozenAt (y * 3 + 2)
                            have hst0 := (hw2.stored (y * 3) (.int .i64 0)).1
                            have hst1 := (hst0.stored (y * 3 + 1) (.int .u32 0)).1
                            have hst2 := (hst1.stored (y * 3 + 2) (.int .i64 0)).1
                            have hgb := hw2.lt g rfl
                            have hB4 := ((hBq.setCell (p := ⟨g, y * 3, none⟩) hgb.1 (.int .i64 0)).setCell (p := ⟨g, y * 3 + 1, none⟩) hgb.1 (.int .u32 0)).setCell (p := ⟨g, y * 3 + 2, none⟩) hgb.1 (.int .i64 0)
                            generalize xs2[y * 3]'(by omega) = o0 at hc0
                            generalize xs2[y * 3 + 1]'(by omega) = o1 at hc1
                            generalize xs2[y * 3 + 2]'(by omega) = o2 at hc2
                            clear hw2 hst0 hst1
                            go_wp2_with fail
                            go_roundw
                            case rel => exact ⟨y + 1, by omega, by go_num, hB4, _, hst2⟩
                            case measure => simp [intOf]; omega
                          · have y1 : ¬ (y : Int) < (ne : Int) := by omega
                            have hpd8 := hpd7.new hBq
                            have hbk8 := hbk7.below hBq hbk7.lt
                            have h44 := same_ok hpd8.t hpd8.x.ref hri7
                            replace h44 := Lib.hid h44
                            have e0 := hbk8.cell 0
                            have e1 := hbk8.cell 1
                            have e2 := hbk8.cell 2
                            simp only [List.getElem?_toArray, List.getElem?_cons_succ, List.getElem?_cons_zero] at e0 e1 e2
                            have hPn : PK w D0 G (k + 1) d3 wr := ⟨fp7, l7, A7, c7, S7, t7, hpd8, hbk8, hl7, hok7⟩
                            clear hw2 hBq
                            go_wp2_with (go_at_call 44; (with_reducible refine h44.out.mono ?_); rintro e W9 ⟨rfl, hB9⟩)
                            go_roundw
                            case rel => exact ⟨k + 1, d3, by omega, by go_num, rfl, hPn.new hB9⟩
                            case measure => simp [intOf]; omega
                · have v1 : ¬ (k : Int) < (m : Int) := by omega
                  obtain ⟨fp7, l7, A7, c7, S7, t7, hpd7, _⟩ := hP
                  go_wp2_with fail
                  go_ret
                  exact ⟨rfl, hpd7.below⟩
        · have hE1 : (E != 0) = true := by simpa using hE0
          have h16 := new_any hb hwd A9 j c9 wr hE hE0
          have h39 := rnew_bad (w := wr) b wd A10 j c10 hwd hE hE0
          have hE2 : (E == 0) = false := by simpa using hE0
          replace h16 := Lib.hid h16
          replace h39 := Lib.hid h39
          clear hE hE0 hr9 hr10
          go_wp2_with (first
            | (go_at_call 16; (with_reducible refine h16.out.mono ?_); rintro e W2 ⟨rfl, hww⟩; cases hww)
            | (go_at_call 39; (with_reducible refine h39.out.mono ?_); rintro e W3 ⟨rfl, hB3⟩))
          go_ret
          exact ⟨rfl, below_and (below_and hBr hB3) ((Below.refl _ _).alloc (Nat.le_refl _) _)⟩
end Go.Proofs.Ythhchccjpgpibaa
