/- Disks: law 6 (copies). -/
import Derived.Test.YthhchccjpgpibaaDiskQ
namespace Go.Proofs.Ythhchccjpgpibaa
open Go Go.RowKit Go.Shelf
set_option linter.unusedVariables false
set_option linter.unusedSimpArgs false
set_option maxHeartbeats 4000000
/-- The lists, cut. -/
def CutAt (A1 A2 : Option Addr) (n1 c1 n2 c2 m1 m2 : Nat) (w1 : World) (u v : Value) (w : World) : Prop :=
  u = .slice A1 m1 c1 ∧ v = .slice A2 m2 c2 ∧ ∃ q, w = w1.drewN q
theorem run_end (f0 f1 f2 : Int) (a0 : 0 ≤ f0 ∧ f0 ≤ 255) (a1 : 0 ≤ f1 ∧ f1 ≤ 255) (a2 : 0 ≤ f2 ∧ f2 ≤ 255) (A : Option Addr) (n c B : Nat) (acts : List ActV) (w : World) (hrd : Reads w B 3 A n (encAs acts)) (hB : B ≤ w.heap.size) (hn : n ≤ c) (hc : c ≤ 9223372036854775807) (hok : ∀ a ∈ acts, ActV.Ok a) (h60 : acts.length ≤ 60) :
    Calls Try.prog 11 #[.agg #[.int .u8 f0, .int .u8 f1, .int .u8 f2], .slice A n c] w fun e w' => ∃ d L cap fp, e = .returned (.tuple #[.pointer (some ⟨d, 0, none⟩), .slice L 3 cap]) ∧ RunEnd w d L cap (runD (mkD 4 3 (first3 f0 f1 f2)) acts) (lastW (first3 f0 f1 f2) acts) 60 fp w' := by
  refine (run_ok f0 f1 f2 a0 a1 a2 A n c B acts w hrd hB hn hc hok).mono ?_
  rintro e w' ⟨d, L, cap, rfl, hR⟩
  obtain ⟨fp, hE⟩ := hR.end_
  rw [List.take_of_length_le h60] at hE
  exact ⟨d, L, cap, fp, rfl, hE⟩
theorem own_cap {w : World} {base n m c : Nat} {e : TypeId} {size : Nat} {A : Option Addr} {xs : List Value} (h : w.ownsRow base e size (.slice A n c) m xs) : n ≤ c ∧ c ≤ 9223372036854775807 := by
  have hml : maxLen ≤ 9223372036854775807 := by decide
  rcases h.2 with ⟨hv, _⟩ | ⟨g, cap, cur, hv, _, _, h1, h2, _⟩
  · injection hv with _ a b
    omega
  · injection hv with _ a b
    omega
theorem encAs_app (k l : List ActV) : encAs (k ++ l) = encAs k ++ encAs l := by simp [encAs]
theorem width_n {w : World} {base d : Nat} {fp : List Nat} {D : Dst} {x : Int} (h : Disk w base d fp D) (hx : D.wd = x) : Calls Try.prog 24 #[.pointer (some ⟨d, 0, none⟩)] w fun e w' => e = .returned (.int .i64 x) ∧ w = w' := by
  have := width_disk h
  rwa [hx] at this
theorem blocks_n {w : World} {base d : Nat} {fp : List Nat} {D : Dst} {n : Nat} (h : Disk w base d fp D) (hx : D.ws.length = n) : Calls Try.prog 25 #[.pointer (some ⟨d, 0, none⟩)] w fun e w' => e = .returned (.int .i64 n) ∧ Below w.heap.size w w' := by
  have := blocks_disk h
  rwa [hx] at this
/-- Three disks: one, that of the whole run, and the copy of the first. -/
structure Cop (w : World) (bc d dw dc : Nat) (fp fpw : List Nat) (D1 DW : Dst) (fpc : List Nat) (Dc : Dst) (W : World) : Prop where
  disk : Disk W w.heap.size d fp D1
  whole : Disk W w.heap.size dw fpw DW
  copy : Disk W bc dc fpc Dc
  low : ∀ k, k ∈ fp → k < bc
  loww : ∀ k, k ∈ fpw → k < bc
  hbc : w.heap.size ≤ bc
  below : Below w.heap.size w W
section
variable {w W W' : World} {bc d dw dc : Nat} {fp fpw fpc fpc' : List Nat} {D1 DW Dc Dc' : Dst}
theorem Cop.new (h : Cop w bc d dw dc fp fpw D1 DW fpc Dc W) (hb : Below W.heap.size W W') : Cop w bc d dw dc fp fpw D1 DW fpc Dc W' :=
  ⟨h.disk.new hb, h.whole.new hb, h.copy.new hb, h.low, h.loww, h.hbc, below_and h.below hb⟩
theorem Cop.step (h : Cop w bc d dw dc fp fpw D1 DW fpc Dc W) (ho : Only fpc W W') (hD : Disk W' bc dc fpc' Dc') : Cop w bc d dw dc fp fpw D1 DW fpc' Dc' W' :=
  ⟨h.disk.keep ho (fun k hk hm => by have := h.low k hk; have := (h.copy.ge k hm).1; omega), h.whole.keep ho (fun k hk hm => by have := h.loww k hk; have := (h.copy.ge k hm).1; omega), hD, h.low, h.loww, h.hbc,
    h.copy.below ho h.below h.hbc⟩
end
/-- The whole run's disk. -/
def WholeAt (w0 : World) (D : Dst) (u : Value) (w : World) : Prop := ∃ d fp, u = .pointer (some ⟨d, 0, none⟩) ∧ Disk w w0.heap.size d fp D ∧ Below w0.heap.size w0 w
set_option maxRecDepth 100000 in
theorem law_copies (f0 f1 f2 : Int) (a0 : 0 ≤ f0 ∧ f0 ≤ 255) (a1 : 0 ≤ f1 ∧ f1 ≤ 255) (a2 : 0 ≤ f2 ∧ f2 ≤ 255) (A1 : Option Addr) (n1 c1 : Nat) (acts1 : List ActV) (A2 : Option Addr) (n2 c2 : Nat) (acts2 : List ActV) (w : World)
    (hrd1 : Reads w w.heap.size 3 A1 n1 (encAs acts1)) (hn1 : n1 ≤ c1) (hc1 : c1 ≤ 9223372036854775807) (hok1 : ∀ a ∈ acts1, ActV.Ok a)
    (hrd2 : Reads w w.heap.size 3 A2 n2 (encAs acts2)) (hn2 : n2 ≤ c2) (hc2 : c2 ≤ 9223372036854775807) (hok2 : ∀ a ∈ acts2, ActV.Ok a) :
    Calls Try.prog 6 #[.agg #[.int .u8 f0, .int .u8 f1, .int .u8 f2], .slice A1 n1 c1, .slice A2 n2 c2] w fun e w' => e = .returned (.bool true) ∧ Below w.heap.size w w' := by
  have hB0 := (Below.refl _ w).alloc (Nat.le_refl _) (.cells #[.int .u8 f0, .int .u8 f1, .int .u8 f2] 22)
  have hbox := Blk.new w 22 #[.int .u8 f0, .int .u8 f1, .int .u8 f2]
  have hbl : w.heap.size < (w.alloc (.cells #[.int .u8 f0, .int .u8 f1, .int .u8 f2] 22)).heap.size := by simp
  have hok1 := Lib.hid hok1
  have hok2 := Lib.hid hok2
  go_enter Try.func6, Try.ntmps6
  go_upto_region 3 with (go_at_call 10; refine (awake_ok _).mono ?_; rintro e w1 ⟨rfl, hB1⟩; replace hbox := hbox.below hB1 hbl; replace hB0 := below_and hB0 hB1; clear hB1)
  obtain ⟨m1, hm1⟩ : ∃ m, m = min n1 30 := ⟨_, rfl⟩
  obtain ⟨m2, hm2⟩ : ∃ m, m = min n2 30 := ⟨_, rfl⟩
  replace hm1 := Lib.hid hm1
  replace hm2 := Lib.hid hm2
  go_cut [1, 2] (fun u v wx => CutAt A1 A2 n1 c1 n2 c2 m1 m2 w1 u v wx)
  case first =>
    have hf1 := hm1.out
    have hf2 := hm2.out
    by_cases h1 : n1 ≤ 30
    · obtain rfl : m1 = n1 := by omega
      clear hf1
      by_cases h2 : n2 ≤ 30
      · obtain rfl : m2 = n2 := by omega
        clear hf2
        have i1 : (m1 : Int) ≤ 30 := by omega
        have i2 : (m2 : Int) ≤ 30 := by omega
        go_quiet (fail)
        go_wp2
        go_meet
        exact ⟨rfl, rfl, _, rfl⟩
      · obtain rfl : m2 = 30 := by omega
        clear hf2
        have i1 : (m1 : Int) ≤ 30 := by omega
        have i2 : ¬ (n2 : Int) ≤ 30 := by omega
        have i3 : 30 ≤ c2 := by omega
        go_quiet (fail)
        go_wp2
        go_meet
        exact ⟨rfl, rfl, _, rfl⟩
    · obtain rfl : m1 = 30 := by omega
      clear hf1
      have i1 : ¬ (n1 : Int) ≤ 30 := by omega
      have i3 : 30 ≤ c1 := by omega
      by_cases h2 : n2 ≤ 30
      · obtain rfl : m2 = n2 := by omega
        clear hf2
        have i2 : (m2 : Int) ≤ 30 := by omega
        go_quiet (fail)
        go_wp2
        go_meet
        exact ⟨rfl, rfl, _, rfl⟩
      · obtain rfl : m2 = 30 := by omega
        clear hf2
        have i2 : ¬ (n2 : Int) ≤ 30 := by omega
        have i4 : 30 ≤ c2 := by omega
        go_quiet (fail)
        go_wp2
        go_meet
        exact ⟨rfl, rfl, _, rfl⟩
  case rest =>
    obtain ⟨rfl, rfl, q, rfl⟩ := hcut
    have hrd200 := hrd2
    replace hrd1 := (hrd1.below hB0).take m1 (by have := hm1.out; omega)
    replace hrd2 := (hrd2.below hB0).take m2 (by have := hm2.out; omega)
    rw [encAs_take] at hrd1 hrd2
    replace hok1 : Hid (∀ a ∈ acts1.take m1, ActV.Ok a) := Lib.hid fun a ha => hok1.out a (List.mem_of_mem_take ha)
    replace hok2 : Hid (∀ a ∈ acts2.take m2, ActV.Ok a) := Lib.hid fun a ha => hok2.out a (List.mem_of_mem_take ha)
    have hm1' : m1 ≤ 30 := by have := hm1.out; omega
    have hm2' : m2 ≤ 30 := by have := hm2.out; omega
    have hn1' : m1 ≤ c1 := by have := hm1.out; omega
    have hn2' : m2 ≤ c2 := by have := hm2.out; omega
    generalize acts1.take m1 = l1 at hrd1 hok1
    have hrd20 := hrd200.take m2 (by have := hm2.out; omega)
    rw [encAs_take] at hrd20
    generalize acts2.take m2 = l2 at hrd2 hok2 hrd20
    clear hm1 hm2
    have hbs := hB0.size
    replace hbox := hbox.drewN q
    replace hB0 := below_drewN hB0 q
    replace hrd1 := hrd1.drewN q
    replace hrd2 := hrd2.drewN q
    generalize w1.drewN q = w2 at *
    replace hbs := hB0.size
    have q0 := hbox.cell 0
    have q1 := hbox.cell 1
    have q2 := hbox.cell 2
    simp only [List.getElem?_toArray, List.getElem?_cons_zero, List.getElem?_cons_succ] at q0 q1 q2
    have hi0 : (mkD 4 3 (first3 f0 f1 f2)) = (mkD 4 3 (first3 f0 f1 f2)) := rfl
    have hlen1 : l1.length ≤ 60 := by have := hrd1.1; rw [encAs_len] at this; omega
    go_upto_region 5 with (fail)
    refine (run_end f0 f1 f2 a0 a1 a2 A1 m1 c1 _ l1 _ hrd1 hbs hn1' hc1 hok1.out hlen1).mono ?_
    rintro e w3 ⟨d, L, cap, fp, rfl, hE⟩
    replace hE := Lib.hid hE
    go_upto_region 5 with (fail)
    have hX : w2.heap.size ≤ w3.heap.size := hE.out.below.size
    have hbx : w.heap.size < w2.heap.size := hbox.lt
    replace hbox := hbox.below hE.out.below hbx
    have hB3 := below_and hB0 hE.out.below
    have hbl3 : w.heap.size < w3.heap.size := by omega
    replace hrd1 := hrd1.below (hE.out.below.mono hbs)
    replace hrd2 := hrd2.below (hE.out.below.mono hbs)
    replace q0 := hbox.cell 0
    replace q1 := hbox.cell 1
    replace q2 := hbox.cell 2
    simp only [List.getElem?_toArray, List.getElem?_cons_zero, List.getElem?_cons_succ] at q0 q1 q2
    go_cut [9] (fun u wx => WholeAt w3 (runD (mkD 4 3 (first3 f0 f1 f2)) (l1 ++ l2)) u wx)
    case first =>
      have hcl := clone21 A1 m1 c1 w.heap.size (encAs l1)
      obtain ⟨i0, hi, hz0, hz1, hz2⟩ := info_parts info31
      have hbs3 := hB3.size
      have hok12 : Hid (∀ a ∈ l1 ++ l2, ActV.Ok a) := Lib.hid fun a ha => by
        rcases List.mem_append.1 ha with h | h
        · exact hok1.out a h
        · exact hok2.out a h
      have hlen12 : (l1 ++ l2).length ≤ 60 := by have := hrd2.1; have := hrd1.1; rw [encAs_len] at *; simp; omega
      go_region_law (first
        | (refine step_append_any _ (by rfl) _ _ 23 (by rfl) w3.heap.size 31 i0 _ 3 24 Try.underlying23 hi hz0 hz1 hz2 rfl (by omega) (.slice V m1 cv) m1 (encAs l1) (by rfl) hv4 w.heap.size A2 m2 c2 (encAs l2) (by rfl) hrd2v (encAs_one _) (by simp only [maxLen]; omega) (by omega) hz5 ?_; intro v5 w5 hown hgr hat; obtain ⟨A5, c5, rfl⟩ := own_form hown; obtain ⟨hn5, hc5⟩ := own_cap hown; have hB5 : Below w3.heap.size w3 w5 := own_below hB4' hz5 hv4 hgr; have hb5 := hbox.below hB5 hbl3; replace q0 := hb5.cell 0; replace q1 := hb5.cell 1; replace q2 := hb5.cell 2; simp only [List.getElem?_toArray, List.getElem?_cons_zero, List.getElem?_cons_succ] at q0 q1 q2; have hrd5 := Reads.of_own hown; rw [← encAs_app] at hrd5)
        | (go_simp; go_at_call 21; refine (hcl _ (by first | exact hrd1 | exact hrd1.drew) (encAs_one _) (by omega)).mono ?_; rintro e w4 ⟨v4, rfl, hv, hB4⟩; obtain ⟨V, cv, rfl⟩ := own_form hv; have hB4' : Below w3.heap.size w3 w4 := ⟨hB4.os, hB4.tape, hB4.output, hB4.size, hB4.block⟩; have hv4 : w4.ownsRow w3.heap.size 31 3 (.slice V m1 cv) m1 (encAs l1) := hv; have hb4 := hbox.below hB4' hbl3; replace q0 := hb4.cell 0; replace q1 := hb4.cell 1; replace q2 := hb4.cell 2; simp only [List.getElem?_toArray, List.getElem?_cons_zero, List.getElem?_cons_succ] at q0 q1 q2; have hrd2v := hrd2.below (hB4'.mono hbs3); have hz5 := hB4'.size; clear hv hB4)
        | (go_simp; go_at_call 11; refine (run_end f0 f1 f2 a0 a1 a2 A5 (m1 + m2) c5 w5.heap.size (l1 ++ l2) _ (by exact hrd5) (Nat.le_refl _) hn5 hc5 hok12.out hlen12).mono ?_; rintro e w6 ⟨d6, L6, cap6, fp6, rfl, hE6⟩; have hfin : WholeAt w3 (runD (mkD 4 3 (first3 f0 f1 f2)) (l1 ++ l2)) (.pointer (some ⟨d6, 0, none⟩)) w6 := ⟨d6, fp6, rfl, hE6.disk.base_le hB5.size, hB5.trans (hE6.below.mono hB5.size)⟩; clear hE6))
      all_goals
        go_wp2_with fail
        go_meet
        exact hfin
    case rest =>
      obtain ⟨dw, fpw, rfl, hDW, hB6⟩ := hcut
      have hl2 : l2.length = m2 := by have := hrd2.1; rw [encAs_len] at this; omega
      have hCr := hE.out.few
      have hbw : w.heap.size ≤ w3.heap.size := hB3.size
      have hDs := (hE.out.disk.base_le hbs).new hB6
      have hlow := hE.out.disk.ge
      rw [runD_app] at hDW
      clear hE q0 q1 q2 hbox hrd1 hok1 hm1' hn1' hn1 hc1 hi0
      generalize runD (mkD 4 3 (first3 f0 f1 f2)) l1 = D1 at *
      replace hDW := hDW.base_le hbw
      have hB7 := below_and hB3 hB6
      have hlow2 := hDW.ge
      have hrd2 := hrd2.below (hB6.mono hbw)
      have hz6 := hB6.size
      generalize hDWe : runD D1 l2 = DW at *
      replace hDWe := Lib.hid hDWe
      clear hB6 hB3 hB0 hX
      have hfw : Few DW 100 := by
        have := hDWe.out
        rw [← this]
        have := hCr.run l2 (by omega)
        exact ⟨this.wd, this.ws, by have := this.es; omega, this.p0, by have := this.ep; omega⟩
      have hC1 : D1.ws.length = 3 := hCr.ws
      have hC2 : D1.es.length ≤ 60 := hCr.es
      have hC3 : D1.wd = 4 := hCr.wd
      have tA := Lib.hid trivial
      have tB := Lib.hid trivial
      have tC := Lib.hid trivial
      have tD := Lib.hid trivial
      have tE := Lib.hid trivial
      have tF := Lib.hid trivial
      have tG := Lib.hid trivial
      replace hC1 := Lib.hid hC1
      replace hC3 := Lib.hid hC3
      go_upto_region 11 with (first
        | (go_at_call 22; refine (copy_disk hDs).mono ?_; rintro e w7 ⟨dc, fpc, rfl, hDC, hB8⟩; have hS : Cop w wc.heap.size d dw dc fp fpw D1 DW fpc D1 w7 := ⟨hDs.new hB8, hDW.new hB8, hDC, fun k hk => (hDs.ge k hk).2, fun k hk => (hDW.ge k hk).2, hB7.size, below_and hB7 hB8⟩; clear hDs hDW hDC hB8 hB7)
        | (go_at_call 12; clear tA; refine (kept_n hS.copy hC1.out rfl).mono ?_; rintro e w8 ⟨A8, c8, rfl, hr8, hB8⟩; replace hS := hS.new hB8; clear hB8)
        | (go_at_call 12; clear tB; refine (kept_n hS.disk hC1.out rfl).mono ?_; rintro e w9 ⟨A9, c9, rfl, hr9, hB8⟩; replace hS := hS.new hB8; replace hr8 := row_new hr8 hB8; clear hB8)
        | (go_at_call 15; clear tC; refine (words_eq D1.ws hr8 hr9 (by omega)).mono ?_; rintro e w10 ⟨rfl, hB8⟩; replace hS := hS.new hB8; clear hB8 hr8 hr9)
        | (go_at_call 13; clear tD; refine (cache_n (es := D1.es) hS.copy rfl rfl).mono ?_; rintro e w8 ⟨A8, c8, rfl, hr8, hB8⟩; replace hS := hS.new hB8; clear hB8)
        | (go_at_call 13; clear tE; refine (cache_n (es := D1.es) hS.disk rfl rfl).mono ?_; rintro e w9 ⟨A9, c9, rfl, hr9, hB8⟩; replace hS := hS.new hB8; replace hr8 := row_new hr8 hB8; clear hB8)
        | (go_at_call 23; refine (ents_eq D1.es hr8 hr9 (by omega)).mono ?_; rintro e w10 ⟨rfl, hB8⟩; replace hS := hS.new hB8; clear hB8 hr8 hr9)
        | (go_at_call 14; clear tF; refine (epoch_n hS.copy rfl).mono ?_; rintro e w10 ⟨rfl, rfl⟩)
        | (go_at_call 14; clear tG; refine (epoch_n hS.disk rfl).mono ?_; rintro e w10 ⟨rfl, rfl⟩)
        | (go_at_call 24; refine (width_n hS.copy hC3.out).mono ?_; rintro e w10 ⟨rfl, rfl⟩)
        | (go_at_call 25; refine (blocks_n hS.copy hC1.out).mono ?_; rintro e w10 ⟨rfl, hB8⟩; replace hS := hS.new hB8; clear hB8))
      have tK := Lib.hid trivial
      have tL := Lib.hid trivial
      have tM := Lib.hid trivial
      go_wp2_with (first
        | (go_at_call 12; clear tK; refine (kept_n hS.disk hC1.out rfl).mono ?_; rintro e w8 ⟨KA, Kc, rfl, hK, hB8⟩; have hz21 := hS.below.size; replace hK := And.intro hK (apart_new hK hS.copy); replace hS := hS.new hB8; clear hB8)
        | (go_at_call 13; clear tL; refine (cache_n (es := D1.es) hS.disk rfl rfl).mono ?_; rintro e w8 ⟨EA, Ec, rfl, hE, hB8⟩; have hz22 := hS.below.size; replace hE := And.intro hE (apart_new hE hS.copy); replace hS := hS.new hB8; replace hK := row_new' hK hB8; clear hB8)
        | (go_at_call 14; clear tM; refine (epoch_n hS.disk rfl).mono ?_; rintro e w10 ⟨rfl, rfl⟩))
      generalize hW11 : wc.heap.size = bc at hS
      replace hK : w8.ownsRow w.heap.size 36 1 (.slice KA 3 Kc) 3 (D1.ws.map (Value.int .u32)) ∧ Apart (.slice KA 3 Kc) fpc := ⟨own_base hK.1 hz21, hK.2⟩
      replace hE : w8.ownsRow w.heap.size 38 3 (.slice EA D1.es.length Ec) D1.es.length (encs D1.es) ∧ Apart (.slice EA D1.es.length Ec) fpc := ⟨own_base hE.1 hz22, hE.2⟩
      clear hW11 hrd2 hlow hlow2 hz6 hz21 hz22
      go_loopw [95] (fun i wr => ∃ (k : Nat) (fpc : List Nat), k ≤ m2 ∧ i = .int .i64 k ∧ Cop w bc d dw dc fp fpw D1 DW fpc (runD D1 (l2.take k)) wr ∧ (wr.ownsRow w.heap.size 36 1 (.slice KA 3 Kc) 3 (D1.ws.map (Value.int .u32)) ∧ Apart (.slice KA 3 Kc) fpc) ∧ (wr.ownsRow w.heap.size 38 3 (.slice EA D1.es.length Ec) D1.es.length (encs D1.es) ∧ Apart (.slice EA D1.es.length Ec) fpc)) (fun i _ => m2 - (intOf i).toNat)
      case atStart => exact ⟨0, fpc, by omega, rfl, by simpa [runD] using hS, hK, hE⟩
      case round =>
        clear hS hK hE
        obtain ⟨k, fpc, hk, rfl, hS, hK, hE⟩ := hrel
        by_cases hlt : k < m2
        · obtain ⟨ad, ⟨x0, x1, x2⟩, rfl, hab, hx, q0, q1, q2⟩ := reads_act (hrd20.below hS.below) hlt
          have hxo := hok2.out _ (List.mem_of_getElem? hx)
          dsimp only [ActV.Ok] at q0 q1 q2 hxo
          have hD1 : runD D1 (l2.take (k + 1)) = stepD (runD D1 (l2.take k)) (x0, x1, x2) := by rw [take_snoc hx, runD_snoc]
          have hbl : ad.block < wr.heap.size := by have := hS.below.size; omega
          have hab2 : (ad.add (k * 3)).block < wr.heap.size := by rw [block_of_add]; exact hbl
          generalize runD D1 (l2.take k) = Dk at *
          replace hD1 := Lib.hid hD1
          have t1 : (k : Int) < (m2 : Int) := by omega
          have t3 : 0 ≤ (k : Int) := by omega
          have hb3 := i64_and3 x1
          have b30 : 0 ≤ x1 % 4 := by omega
          have b31 : x1 % 4 < 4 := by omega
          have hA := (Below.refl _ wr).alloc (Nat.le_refl _) (.cells #[.int .u8 x0, .int .i64 x1, .int .u32 x2] 31)
          have hbx : wr.heap.size ∉ fpc := fun hm => by have := (hS.copy.ge _ hm).2; omega
          replace hS := hS.new hA
          replace hK := row_new' hK hA
          replace hE := row_new' hE hA
          clear hA
          have mk : ∀ w3 fp3, Disk w3 bc dc fp3 (stepD Dk (x0, x1, x2)) → (∀ k, k ∈ fp3 → k ∈ fpc ∨ (wr.alloc (.cells #[.int .u8 x0, .int .i64 x1, .int .u32 x2] 31)).heap.size ≤ k) → Only fpc (wr.alloc (.cells #[.int .u8 x0, .int .i64 x1, .int .u32 x2] 31)) w3 →
              Hid (Cop w bc d dw dc fp fpw D1 DW fp3 (runD D1 (l2.take (k + 1))) w3 ∧ (w3.ownsRow w.heap.size 36 1 (.slice KA 3 Kc) 3 (D1.ws.map (Value.int .u32)) ∧ Apart (.slice KA 3 Kc) fp3) ∧ (w3.ownsRow w.heap.size 38 3 (.slice EA D1.es.length Ec) D1.es.length (encs D1.es) ∧ Apart (.slice EA D1.es.length Ec) fp3)) := by
            intro w3 fp3 h1 h2 h3
            refine Lib.hid ⟨hS.step h3 (by rw [hD1.out]; exact h1), row_step' hK h3 h2, row_step' hE h3 h2⟩
          have hDC := hS.copy
          have n8 : 0 ≤ x0 % 8 ∧ x0 % 8 < 8 := by omega
          clear hS hK hE
          by_cases c4 : x0 % 8 = 4
          · have e4 : (x0 % 8 == 4) = true := by simpa using c4
            go_wp2_with (go_at_call 26; refine (barrier_disk hDC).mono ?_; rintro e w3 ⟨rfl, hD3, hO3⟩; have hfin := mk w3 fpc (by rw [stepD, if_pos c4]; exact hD3) (fun k hk => .inl hk) hO3)
            go_roundw
            case rel => exact ⟨k + 1, _, by omega, by go_num, hfin.out⟩
            case measure => simp [intOf]; omega
          have e4 : (x0 % 8 == 4) = false := by simpa using c4
          by_cases c5 : x0 % 8 = 5
          · have e5 : (x0 % 8 == 5) = true := by simpa using c5
            go_wp2_with (go_at_call 20; refine (flush_disk hDC).mono ?_; rintro e w3 ⟨rfl, fp3, hD3, hf3, hO3⟩; have hfin := mk w3 fp3 (by rw [stepD, if_neg c4, if_pos c5]; exact hD3) hf3 hO3)
            go_roundw
            case rel => exact ⟨k + 1, _, by omega, by go_num, hfin.out⟩
            case measure => simp [intOf]; omega
          have e5 : (x0 % 8 == 5) = false := by simpa using c5
          by_cases c6 : x0 % 8 = 6
          · have e6 : (x0 % 8 == 6) = true := by simpa using c6
            have hfin := mk _ fpc (by rw [stepD, if_neg c4, if_neg c5, if_pos (.inl c6)]; exact hDC) (fun k hk => .inl hk) (Only.refl _ _)
            go_wp2
            go_roundw
            case rel => exact ⟨k + 1, _, by omega, by go_num, hfin.out⟩
            case measure => simp [intOf]; omega
          have e6 : (x0 % 8 == 6) = false := by simpa using c6
          by_cases c7 : x0 % 8 = 7
          · have e7 : (x0 % 8 == 7) = true := by simpa using c7
            have hfin := mk _ fpc (by rw [stepD, if_neg c4, if_neg c5, if_pos (.inr c7)]; exact hDC) (fun k hk => .inl hk) (Only.refl _ _)
            go_wp2
            go_roundw
            case rel => exact ⟨k + 1, _, by omega, by go_num, hfin.out⟩
            case measure => simp [intOf]; omega
          have e7 : (x0 % 8 == 7) = false := by simpa using c7
          have hst : stepD Dk (x0, x1, x2) = wrt Dk (x1 % 4) x2 := by unfold stepD; rw [if_neg c4, if_neg c5, if_neg (by simp only; omega)]
          replace hst := Lib.hid hst
          go_wp2_with (go_at_call 17; refine (write_disk hDC (x1 % 4) x2 (by omega) (by omega)).mono ?_; rintro e w3 ⟨rfl, fp3, hD3, hf3, hO3⟩; have hfin := mk w3 fp3 (by rw [hst.out]; exact hD3) hf3 hO3)
          go_roundw
          case rel => exact ⟨k + 1, _, by omega, by go_num, hfin.out⟩
          case measure => simp [intOf]; omega
        · obtain rfl : k = m2 := by omega
          rw [List.take_of_length_le (by omega), hDWe.out] at hS
          have hW1 : DW.ws.length = 3 := hfw.ws
          have hW2 : DW.es.length ≤ 100 := hfw.es
          replace hW1 := Lib.hid hW1
          have tN := Lib.hid trivial
          have tO := Lib.hid trivial
          have tP := Lib.hid trivial
          have tQ := Lib.hid trivial
          have tR := Lib.hid trivial
          have tS := Lib.hid trivial
          have tT := Lib.hid trivial
          have tU := Lib.hid trivial
          have tV := Lib.hid trivial
          have tW := Lib.hid trivial
          have tX := Lib.hid trivial
          go_wp2_with (first
            | (go_at_call 12; clear tN; refine (kept_n hS.disk hC1.out rfl).mono ?_; rintro e w8 ⟨A8, c8, rfl, hr8, hB8⟩; replace hS := hS.new hB8; replace hK := row_new' hK hB8; replace hE := row_new' hE hB8; clear hB8)
            | (go_at_call 15; clear tO; refine (words_eq D1.ws hr8 hK.1 (by omega)).mono ?_; rintro e w10 ⟨rfl, hB8⟩; replace hS := hS.new hB8; replace hE := row_new' hE hB8; clear hB8 hr8 hK)
            | (go_at_call 13; clear tP; refine (cache_n (es := D1.es) hS.disk rfl rfl).mono ?_; rintro e w8 ⟨A8, c8, rfl, hr8, hB8⟩; replace hS := hS.new hB8; replace hE := row_new' hE hB8; clear hB8)
            | (go_at_call 23; clear tQ; refine (ents_eq D1.es hr8 hE.1 (by omega)).mono ?_; rintro e w10 ⟨rfl, hB8⟩; replace hS := hS.new hB8; clear hB8 hr8 hE)
            | (go_at_call 14; clear tR; refine (epoch_n hS.disk rfl).mono ?_; rintro e w10 ⟨rfl, rfl⟩)
            | (go_at_call 12; clear tS; refine (kept_n hS.copy hW1.out rfl).mono ?_; rintro e w8 ⟨A8, c8, rfl, hr8, hB8⟩; replace hS := hS.new hB8; clear hB8)
            | (go_at_call 12; clear tT; refine (kept_n hS.whole hW1.out rfl).mono ?_; rintro e w9 ⟨A9, c9, rfl, hr9, hB8⟩; replace hS := hS.new hB8; replace hr8 := row_new hr8 hB8; clear hB8)
            | (go_at_call 15; refine (words_eq DW.ws hr8 hr9 (by omega)).mono ?_; rintro e w10 ⟨rfl, hB8⟩; replace hS := hS.new hB8; clear hB8 hr8 hr9)
            | (go_at_call 13; clear tU; refine (cache_n (es := DW.es) hS.copy rfl rfl).mono ?_; rintro e w8 ⟨A8, c8, rfl, hr8, hB8⟩; replace hS := hS.new hB8; clear hB8)
            | (go_at_call 13; clear tV; refine (cache_n (es := DW.es) hS.whole rfl rfl).mono ?_; rintro e w9 ⟨A9, c9, rfl, hr9, hB8⟩; replace hS := hS.new hB8; replace hr8 := row_new hr8 hB8; clear hB8)
            | (go_at_call 23; refine (ents_eq DW.es hr8 hr9 (by omega)).mono ?_; rintro e w10 ⟨rfl, hB8⟩; replace hS := hS.new hB8; clear hB8 hr8 hr9)
            | (go_at_call 14; clear tW; refine (epoch_n hS.copy rfl).mono ?_; rintro e w10 ⟨rfl, rfl⟩)
            | (go_at_call 14; clear tX; refine (epoch_n hS.whole rfl).mono ?_; rintro e w10 ⟨rfl, rfl⟩))
          go_ret
          exact ⟨rfl, hS.below⟩
end Go.Proofs.Ythhchccjpgpibaa
