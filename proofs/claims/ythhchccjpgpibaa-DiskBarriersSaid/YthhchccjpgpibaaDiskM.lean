/- Disks: a run. -/
import Derived.Test.YthhchccjpgpibaaDiskL
namespace Go.Proofs.Ythhchccjpgpibaa
open Go Go.RowKit Go.Shelf
set_option linter.unusedVariables false
set_option linter.unusedSimpArgs false
set_option maxHeartbeats 4000000
def first3 (f0 f1 f2 : Int) : List Int := [f0 % 16, f1 % 16, f2 % 16]
theorem mk3 (f0 f1 f2 : Int) : (mkD 4 3 (first3 f0 f1 f2)).ws = first3 f0 f1 f2 := by
  simp [mkD, first3, cut4]
/-- What a run keeps, round by round. -/
def RunAt (w : World) (d : Nat) (L : Value) (D0 : Dst) (l0 : List Int) (acts : List ActV) (k : Nat) (wr : World) : Prop :=
  ∃ fp, Disk wr w.heap.size d fp (runD D0 (acts.take k)) ∧ (wr.ownsRow w.heap.size 36 1 L 3 ((lastW l0 (acts.take k)).map (Value.int .u32)) ∧ Apart L fp) ∧ Below w.heap.size w wr
theorem run_new {w : World} {B c : Nat} {A : Option Addr} (l : List Int) (hrd : Reads w B 1 A 3 (l.map (Value.int .u32))) (hB : B ≤ w.heap.size) (hl : ∀ x ∈ l, 0 ≤ x ∧ x ≤ 4294967295) :
    Calls Try.prog 16 #[.int .i64 3, .int .i64 4, .slice A 3 c] w fun e w' => ∃ d fp, e = .returned (.tuple #[.pointer (some ⟨d, 0, none⟩), .int .i64 0]) ∧ Disk w' w.heap.size d fp (mkD 4 3 l) ∧ Below w.heap.size w w' :=
  new_disk 3 4 A 3 c B l hrd hB (by omega) (by omega) (by omega) (by omega) (by omega) hl
theorem run_lit (w : World) (o : Obj) (xs : List Value) (hx : xs.length = 3) : ((w.alloc o).alloc (.cells xs.toArray 36)).ownsRow (w.heap.size + 1) 36 1 (.slice (some ⟨w.heap.size + 1, 0, none⟩) 3 3) 3 xs := by
  have := lit_own (w.alloc o) 36 xs 1 3 (by omega) (by omega)
  rwa [World.size_alloc] at this
section
variable {w : World} {base d n : Nat} {D : Dst} {fp : List Nat}
theorem write_in (h : Disk w base d fp D) (hf : Few D n) (hn : n < 4096) (b x : Int) (b0 : 0 ≤ b) (b1 : b < 3) (x0 : 0 ≤ x) (x1 : x ≤ 4294967295) :
    Calls Try.prog 17 #[.pointer (some ⟨d, 0, none⟩), .int .i64 b, .int .u32 x] w fun e w' => e = .returned (.tuple #[.bool true, .int .i64 0]) ∧ ∃ fp', Disk w' base d fp' (wrt D b x) ∧ (∀ k, k ∈ fp' → k ∈ fp ∨ w.heap.size ≤ k) ∧ Only fp w w' := by
  have h1 : wOk D b = true := by
    simp only [wOk, Bool.and_eq_true, decide_eq_true_eq]
    have := hf.ws
    have := hf.es
    omega
  have h2 : wErr D b = 0 := if_neg (by have := hf.es; omega)
  have := write_disk h b x x0 x1
  rwa [h1, h2] at this
theorem write_at3 (h : Disk w base d fp D) (hf : Few D n) (b x : Int) (b1 : 3 ≤ b) (x0 : 0 ≤ x) (x1 : x ≤ 4294967295) :
    Calls Try.prog 17 #[.pointer (some ⟨d, 0, none⟩), .int .i64 b, .int .u32 x] w fun e w' => e = .returned (.tuple #[.bool false, .int .i64 0]) ∧ ∃ fp', Disk w' base d fp' (wrt D b x) ∧ (∀ k, k ∈ fp' → k ∈ fp ∨ w.heap.size ≤ k) ∧ Only fp w w' := by
  have h1 : wOk D b = false := by
    rw [← Bool.not_eq_true]
    intro hh
    simp only [wOk, Bool.and_eq_true, decide_eq_true_eq] at hh
    have := hf.ws
    omega
  have h2 : wErr D b = 0 := if_neg (by have := hf.ws; omega)
  have := write_disk h b x x0 x1
  rwa [h1, h2] at this
theorem barrier_few (h : Disk w base d fp D) (hf : Few D n) (hn : n < 4096) : Calls Try.prog 26 #[.pointer (some ⟨d, 0, none⟩)] w fun e w' => e = .returned (.int .i64 0) ∧ Disk w' base d fp (bar D) ∧ Only fp w w' := by
  have h1 : bErr D = 0 := if_neg (by have := hf.ep; omega)
  have := barrier_disk h
  rwa [h1] at this
end
theorem take_snoc {α : Type} {l : List α} {k : Nat} {x : α} (h : l[k]? = some x) : l.take (k + 1) = l.take k ++ [x] := by rw [List.take_add_one, h]; rfl
set_option maxRecDepth 100000 in
theorem run_ok (f0 f1 f2 : Int) (a0 : 0 ≤ f0 ∧ f0 ≤ 255) (a1 : 0 ≤ f1 ∧ f1 ≤ 255) (a2 : 0 ≤ f2 ∧ f2 ≤ 255) (A : Option Addr) (n c B : Nat) (acts : List ActV) (w : World) (hrd : Reads w B 3 A n (encAs acts)) (hB : B ≤ w.heap.size) (hn : n ≤ c) (hc : c ≤ 9223372036854775807) (hok : ∀ a ∈ acts, ActV.Ok a) :
    Calls Try.prog 11 #[.agg #[.int .u8 f0, .int .u8 f1, .int .u8 f2], .slice A n c] w fun e w' => ∃ d L cap, e = .returned (.tuple #[.pointer (some ⟨d, 0, none⟩), .slice L 3 cap]) ∧ RunAt w d (.slice L 3 cap) (mkD 4 3 (first3 f0 f1 f2)) (first3 f0 f1 f2) (acts.take 60) 60 w' := by
  have b0 := u8_and15 f0 a0.1 a0.2
  have b1 := u8_and15 f1 a1.1 a1.2
  have b2 := u8_and15 f2 a2.1 a2.2
  have k0 : 0 ≤ f0 % 16 ∧ f0 % 16 < 16 := by omega
  have k1 : 0 ≤ f1 % 16 ∧ f1 % 16 < 16 := by omega
  have k2 : 0 ≤ f2 % 16 ∧ f2 % 16 < 16 := by omega
  go_enter Try.func11, Try.ntmps11
  have hl0 := run_lit w (.cells #[.int .u8 f0, .int .u8 f1, .int .u8 f2] 22) ((first3 f0 f1 f2).map (Value.int .u32)) rfl
  have hl1 : ∀ x ∈ first3 f0 f1 f2, 0 ≤ x ∧ x ≤ 4294967295 := by
    intro x hx
    simp [first3] at hx
    rcases hx with rfl | rfl | rfl <;> omega
  replace hl1 := Lib.hid hl1
  go_wp2_with (first
    | (go_at_call 16; refine (run_new (first3 f0 f1 f2) (Reads.of_own hl0) (Nat.le_refl _) hl1.out).mono ?_; rintro e w1 ⟨d, fp, rfl, hD, hB1⟩; replace hl0 := row_new hl0 hB1; replace hB1 := after_alloc (after_alloc hB1); replace hD := hD.base_le (base' := w.heap.size) (by simp; omega))
    | (go_at_call 32; refine (clone32 _ 3 3 _ _ _ (Reads.of_own hl0) (words_one _) (by omega)).mono ?_; rintro e w2 ⟨v, rfl, hL, hB2⟩; obtain ⟨L, cap, rfl⟩ := own_form hL; have hLa := And.intro hL (apart_new hL hD); replace hD := hD.new hB2; clear hl0 hL))
  all_goals
    (try simp only [show max (60 : Int) 0 = 60 from rfl])
    go_loopw [8, 46] (fun e i wr => ∃ k : Nat, k ≤ n ∧ k ≤ 60 ∧ e = .int .i64 0 ∧ i = .int .i64 k ∧ RunAt w d (.slice L 3 cap) (mkD 4 3 (first3 f0 f1 f2)) (first3 f0 f1 f2) acts k wr) (fun _ i _ => 60 - (intOf i).toNat)
    case atStart => exact ⟨0, by omega, by omega, rfl, rfl, fp, by simpa [runD] using hD, ⟨own_base hLa.1 hB1.size, hLa.2⟩, below_and hB1 hB2⟩
    case round =>
      clear hD hLa hB1 hB2
      obtain ⟨k, hk1, hk2, rfl, rfl, fp, hD, hL, hB1⟩ := hrel
      have hlen : acts.length = n := by have := hrd.1; rw [encAs_len] at this; omega
      by_cases hlt : k < n ∧ k < 60
      · obtain ⟨ad, ⟨x0, x1, x2⟩, rfl, hab, hx, q0, q1, q2⟩ := reads_act (hrd.below (hB1.mono hB)) hlt.1
        have hxo := hok _ (List.mem_of_getElem? hx)
        dsimp only [ActV.Ok] at q0 q1 q2 hxo
        have hfew : Few (runD (mkD 4 3 (first3 f0 f1 f2)) (acts.take k)) (0 + (acts.take k).length) := (few_zero _ rfl).run _ (by rw [List.length_take]; omega)
        rw [List.length_take, Nat.min_eq_left (by omega), Nat.zero_add] at hfew
        have hD1 : runD (mkD 4 3 (first3 f0 f1 f2)) (acts.take (k + 1)) = stepD (runD (mkD 4 3 (first3 f0 f1 f2)) (acts.take k)) (x0, x1, x2) := by rw [take_snoc hx, runD_snoc]
        have hl1 : lastW (first3 f0 f1 f2) (acts.take (k + 1)) = lastS (lastW (first3 f0 f1 f2) (acts.take k)) (x0, x1, x2) := by rw [take_snoc hx, lastW_snoc]
        have hl3 : (lastW (first3 f0 f1 f2) (acts.take k)).length = 3 := by rw [lastW_len]; rfl
        have hbl : ad.block < wr.heap.size := by have := hB1.size; omega
        have hab2 : (ad.add (k * 3)).block < wr.heap.size := by rw [block_of_add]; exact hbl
        generalize runD (mkD 4 3 (first3 f0 f1 f2)) (acts.take k) = Dk at *
        generalize lastW (first3 f0 f1 f2) (acts.take k) = lk at *
        have t1 : (k : Int) < (n : Int) := by omega
        have t2 : (k : Int) < 60 := by omega
        have t3 : 0 ≤ (k : Int) := by omega
        have hb3 := i64_and3 x1
        have hw15 := u32_and15 x2 hxo.2.2.2.2.1 hxo.2.2.2.2.2
        have hD2 := hD.new ((Below.refl _ wr).alloc (Nat.le_refl _) (.cells #[.int .u8 x0, .int .i64 x1, .int .u32 x2] 31))
        have hL2 := row_new' hL ((Below.refl _ wr).alloc (Nat.le_refl _) (.cells #[.int .u8 x0, .int .i64 x1, .int .u32 x2] 31))
        have hB2 := hB1.alloc hB1.size (.cells #[.int .u8 x0, .int .i64 x1, .int .u32 x2] 31)
        have hbx : wr.heap.size ∉ fp := fun hm => by have := (hD.ge _ hm).2; omega
        have hbox : (wr.alloc (.cells #[.int .u8 x0, .int .i64 x1, .int .u32 x2] 31)).cell? ⟨wr.heap.size, 2, none⟩ = some (.int .u32 x2) := by
          exact (Blk.new wr 31 #[.int .u8 x0, .int .i64 x1, .int .u32 x2]).cell 2
        clear hD hL hB1
        have mk : ∀ w3 fp3, Disk w3 w.heap.size d fp3 (stepD Dk (x0, x1, x2)) → (∀ k, k ∈ fp3 → k ∈ fp ∨ (wr.alloc (.cells #[.int .u8 x0, .int .i64 x1, .int .u32 x2] 31)).heap.size ≤ k) → Only fp (wr.alloc (.cells #[.int .u8 x0, .int .i64 x1, .int .u32 x2] 31)) w3 → lastS lk (x0, x1, x2) = lk →
            Hid (RunAt w d (.slice L 3 cap) (mkD 4 3 (first3 f0 f1 f2)) (first3 f0 f1 f2) acts (k + 1) w3) := by
          intro w3 fp3 h1 h2 h3 h4
          exact Lib.hid ⟨fp3, by rw [hD1]; exact h1, by rw [hl1, h4]; exact row_step' hL2 h3 h2, hD2.below h3 hB2 (Nat.le_refl _)⟩
        have n8 : 0 ≤ x0 % 8 ∧ x0 % 8 < 8 := by omega
        by_cases c4 : x0 % 8 = 4
        · have e4 : (x0 % 8 == 4) = true := by simpa using c4
          go_wp2_with (go_at_call 26; refine (barrier_few hD2 hfew (by omega)).mono ?_; rintro e w3 ⟨rfl, hD3, hO3⟩; have hfin := mk w3 fp (by rw [stepD, if_pos c4]; exact hD3) (fun k hk => .inl hk) hO3 (by unfold lastS; rw [if_neg (by simp only; omega)]))
          go_roundw
          case rel => exact ⟨k + 1, by omega, by omega, rfl, by go_num, hfin.out⟩
          case measure => simp [intOf]; omega
        have e4 : (x0 % 8 == 4) = false := by simpa using c4
        by_cases c5 : x0 % 8 = 5
        · have e5 : (x0 % 8 == 5) = true := by simpa using c5
          go_wp2_with (go_at_call 20; refine (flush_disk hD2).mono ?_; rintro e w3 ⟨rfl, fp3, hD3, hf3, hO3⟩; have hfin := mk w3 fp3 (by rw [stepD, if_neg c4, if_pos c5]; exact hD3) hf3 hO3 (by unfold lastS; rw [if_neg (by simp only; omega)]))
          go_roundw
          case rel => exact ⟨k + 1, by omega, by omega, rfl, by go_num, hfin.out⟩
          case measure => simp [intOf]; omega
        have e5 : (x0 % 8 == 5) = false := by simpa using c5
        by_cases c6 : x0 % 8 = 6
        · have e6 : (x0 % 8 == 6) = true := by simpa using c6
          have hfin := mk _ fp (by rw [stepD, if_neg c4, if_neg c5, if_pos (.inl c6)]; exact hD2) (fun k hk => .inl hk) (Only.refl _ _) (by unfold lastS; rw [if_neg (by simp only; omega)])
          go_wp2
          go_roundw
          case rel => exact ⟨k + 1, by omega, by omega, rfl, by go_num, hfin.out⟩
          case measure => simp [intOf]; omega
        have e6 : (x0 % 8 == 6) = false := by simpa using c6
        by_cases c7 : x0 % 8 = 7
        · have e7 : (x0 % 8 == 7) = true := by simpa using c7
          have hfin := mk _ fp (by rw [stepD, if_neg c4, if_neg c5, if_pos (.inr c7)]; exact hD2) (fun k hk => .inl hk) (Only.refl _ _) (by unfold lastS; rw [if_neg (by simp only; omega)])
          go_wp2
          go_roundw
          case rel => exact ⟨k + 1, by omega, by omega, rfl, by go_num, hfin.out⟩
          case measure => simp [intOf]; omega
        have e7 : (x0 % 8 == 7) = false := by simpa using c7
        have hst : stepD Dk (x0, x1, x2) = wrt Dk (x1 % 4) x2 := by unfold stepD; rw [if_neg c4, if_neg c5, if_neg (by simp only; omega)]
        by_cases c3 : x1 % 4 < 3
        · have d3 : decide (x1 % 4 < 3) = true := by simpa using c3
          obtain ⟨b, hb⟩ : ∃ b : Nat, x1 % 4 = (b : Int) := ⟨(x1 % 4).toNat, by omega⟩
          rw [hb] at hb3 d3
          have hb2 : (b : Int) < 3 := by omega
          have hb0 : 0 ≤ (b : Int) := by omega
          have hb4 : b < 3 := by omega
          obtain ⟨g, cap2, hv, hgw, _⟩ := hL2.1.form (by omega)
          obtain ⟨rfl, rfl⟩ : L = some ⟨g, 0, none⟩ ∧ cap = cap2 := by injection hv with a b c; exact ⟨a, c⟩
          clear hv
          have hls : lastS lk (x0, x1, x2) = lk.set b (cutW x2 4) := by unfold lastS; rw [if_pos (by simp only; omega), hb, Int.toNat_natCast]
          go_wp2_with (go_at_call 17; refine (write_in hD2 hfew (by omega) b x2 hb0 hb2 (by omega) (by omega)).mono ?_; rintro e w3 ⟨rfl, fp3, hD3, hf3, hO3⟩; have hr3 := row_step' hL2 hO3 hf3; have hc3 := hr3.1.cellAt b (by omega); rw [List.getElem?_map, List.getElem?_eq_getElem (by omega), Option.map_some] at hc3; have hz3 := hr3.1.frozenAt b; have hs3 := (hr3.1.stored b (.int .u32 (cutW x2 4))).1; have hg3 : g ∉ fp3 := hr3.2 g rfl; have hO4 := (Only.refl [g] w3).setCell (p := ⟨g, b, none⟩) (.inl (by simp)) (.int .u32 (cutW x2 4)); have hD4 := hD3.keep hO4 (by intro k hk hm; rw [List.mem_singleton] at hm; subst hm; exact hg3 hk); have hB4 := (hD2.below hO3 hB2 (Nat.le_refl _)).setCell (p := ⟨g, b, none⟩) hgw (.int .u32 (cutW x2 4)); rw [← List.map_set, ← hls] at hs3; have hq3 := (hO3.cell (p := ⟨wr.heap.size, 2, none⟩) (by simp) hbx).trans hbox; have hfin : Hid (RunAt w d (.slice (some ⟨g, 0, none⟩) 3 cap) (mkD 4 3 (first3 f0 f1 f2)) (first3 f0 f1 f2) acts (k + 1) (w3.setCell ⟨g, b, none⟩ (.int .u32 (cutW x2 4)))) := Lib.hid ⟨fp3, by rw [hD1, hst, hb]; exact hD4, by rw [hl1]; exact ⟨hs3, hr3.2⟩, hB4⟩; clear hs3 hD4 hB4 hO4 hr3 hD3; have hbh2 : x2 ≤ 4294967295 := by omega)
          go_roundw
          case rel => exact ⟨k + 1, by omega, by omega, rfl, by go_num, hfin.out⟩
          case measure => simp [intOf]; omega
        · have d3 : decide (x1 % 4 < 3) = false := by simpa using c3
          go_wp2_with (go_at_call 17; refine (write_at3 hD2 hfew (x1 % 4) x2 (by omega) (by omega) (by omega)).mono ?_; rintro e w3 ⟨rfl, fp3, hD3, hf3, hO3⟩; have hfin := mk w3 fp3 (by rw [hst]; exact hD3) hf3 hO3 (by unfold lastS; rw [if_neg (by simp only; omega)]))
          go_roundw
          case rel => exact ⟨k + 1, by omega, by omega, rfl, by go_num, hfin.out⟩
          case measure => simp [intOf]; omega
      · have hend : ∀ wr', RunAt w d (.slice L 3 cap) (mkD 4 3 (first3 f0 f1 f2)) (first3 f0 f1 f2) acts k wr' → RunAt w d (.slice L 3 cap) (mkD 4 3 (first3 f0 f1 f2)) (first3 f0 f1 f2) (acts.take 60) 60 wr' := by
          intro wr' h'
          have ht : (acts.take 60).take 60 = acts.take k := by
            rw [List.take_take]
            by_cases h60 : n ≤ 60
            · rw [List.take_of_length_le (by omega), List.take_of_length_le (by omega)]
            · rw [show k = min 60 60 by omega]
          unfold RunAt at h' ⊢
          rw [ht]; exact h'
        have hfin := hend wr ⟨fp, hD, hL, hB1⟩
        clear hend
        by_cases h60 : n ≤ 60
        · first
            | (exfalso; omega)
            | (obtain rfl : k = n := by omega
               clear hrd hok hlen hk1 hk2 hlt hn hc h60
               go_wp2
               go_ret2
               exact ⟨_, _, _, rfl, hfin⟩)
        · first
            | (exfalso; omega)
            | (obtain rfl : k = 60 := by omega
               clear hrd hok hlen hk1 hk2 hlt hn hc h60
               go_wp2
               go_ret2
               exact ⟨_, _, _, rfl, hfin⟩)
end Go.Proofs.Ythhchccjpgpibaa
