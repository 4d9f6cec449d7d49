/- Disks: law 8: a cache that is full, and no disk. -/
import Derived.Test.YthhchccjpgpibaaDiskAF
namespace Go.Proofs.Ythhchccjpgpibaa
open Go Go.RowKit Go.Shelf
set_option linter.unusedVariables false
set_option linter.unusedSimpArgs false
set_option maxHeartbeats 4000000
section
variable {W : World}
theorem nil_write : Calls Try.prog 17 #[.pointer none, .int .i64 0, .int .u32 1] W fun e w' => e = .returned (.tuple #[.bool false, .int .i64 1]) ∧ W = w' := by
  go_enter Try.func17, Try.ntmps17
  go_wp2
  go_ret2
  exact ⟨rfl, rfl⟩
theorem nil_barrier : Calls Try.prog 26 #[.pointer none] W fun e w' => e = .returned (.int .i64 1) ∧ W = w' := by
  go_enter Try.func26, Try.ntmps26
  go_wp2
  go_ret
  exact ⟨rfl, rfl⟩
theorem nil_flush : Calls Try.prog 20 #[.pointer none] W fun e w' => e = .returned (.int .i64 1) ∧ W = w' := by
  go_enter Try.func20, Try.ntmps20
  go_wp2
  go_ret
  exact ⟨rfl, rfl⟩
theorem nil_kept : Calls Try.prog 12 #[.pointer none] W fun e w' => e = .returned (.slice none 0 0) ∧ W = w' := by
  go_enter Try.func12, Try.ntmps12
  go_wp2
  go_ret
  exact ⟨rfl, rfl⟩
theorem nil_cache : Calls Try.prog 13 #[.pointer none] W fun e w' => e = .returned (.slice none 0 0) ∧ W = w' := by
  go_enter Try.func13, Try.ntmps13
  go_wp2
  go_ret
  exact ⟨rfl, rfl⟩
theorem nil_epoch : Calls Try.prog 14 #[.pointer none] W fun e w' => e = .returned (.int .i64 0) ∧ W = w' := by
  go_enter Try.func14, Try.ntmps14
  go_wp2
  go_ret
  exact ⟨rfl, rfl⟩
theorem nil_width : Calls Try.prog 24 #[.pointer none] W fun e w' => e = .returned (.int .i64 0) ∧ W = w' := by
  go_enter Try.func24, Try.ntmps24
  go_wp2
  go_ret
  exact ⟨rfl, rfl⟩
theorem nil_blocks : Calls Try.prog 25 #[.pointer none] W fun e w' => e = .returned (.int .i64 0) ∧ W = w' := by
  go_enter Try.func25, Try.ntmps25
  go_wp2_with (first | (go_at_call 12; refine (nil_kept).mono ?_; rintro e w' ⟨rfl, rfl⟩))
  go_ret
  exact ⟨rfl, rfl⟩
theorem nil_copy : Calls Try.prog 22 #[.pointer none] W fun e w' => e = .returned (.pointer none) ∧ W = w' := by
  go_enter Try.func22, Try.ntmps22
  go_wp2
  go_ret
  exact ⟨rfl, rfl⟩
theorem nil_seen : Calls Try.prog 19 #[.pointer none] W fun e w' => e = .returned (.slice none 0 0) ∧ Below W.heap.size W w' := by
  have h12 := nil_kept (W := W)
  replace h12 := Lib.hid h12
  go_enter Try.func19, Try.ntmps19
  go_wp2_with (go_at_call 12; (with_reducible refine h12.out.mono ?_); rintro e w' ⟨rfl, rfl⟩)
  refine wp_loop_once ?_
  go_wp2
  go_ret
  exact ⟨rfl, Below.refl _ _⟩
theorem nil_read : Calls Try.prog 18 #[.pointer none, .int .i64 0] W fun e w' => e = .returned (.int .u32 0) ∧ Below W.heap.size W w' := by
  refine callsIn_wide.1 (?_ : CallsIn Fence.wide 3 Try.prog 18 #[.pointer none, .int .i64 0] W fun e w' => e = .returned (.int .u32 0) ∧ Below W.heap.size W w')
  refine callsIn_of_wp_marks Try.func18 rfl trivial ?_ rfl
  simp only [Try.ntmps18, List.size_toArray, List.length_cons, List.length_nil, Nat.reduceAdd, Nat.reduceSub, Array.replicate_succ, Array.replicate_zero, List.push_toArray, List.append_toArray, List.nil_append, List.cons_append]
  refine wpIn_wide.2 ?_
  go_wp2
  go_step3
  go_wp2
  go_quiet (fail)
  go_wp2
  rw [Exit.noGoto_ret]
  refine ⟨.int .u32 0, by simp [results, Try.results18, go_sem], rfl, ?_⟩
  exact below_drewN ((Below.refl _ W).alloc (Nat.le_refl _) _) _
end
/-- A disk whose cache grows. -/
def Fk (k : Nat) : Dst := { wd := 16, ws := [0, 0], es := (List.range k).map fun i => (((i % 2 : Nat) : Int), (i : Int), (i : Int)), ep := k }
theorem fk_len (k : Nat) : (Fk k).es.length = k := by simp [Fk]
theorem fk_step {k : Nat} (hk : k < 4096) : wOk (Fk k) ((k % 2 : Nat) : Int) = true ∧ wErr (Fk k) ((k % 2 : Nat) : Int) = 0 ∧ wrt (Fk k) ((k % 2 : Nat) : Int) (k : Int) = { Fk k with es := (Fk (k + 1)).es } ∧ bErr { Fk k with es := (Fk (k + 1)).es } = 0 ∧ bar { Fk k with es := (Fk (k + 1)).es } = Fk (k + 1) := by
  have hl := fk_len k
  have hok : wOk (Fk k) ((k % 2 : Nat) : Int) = true := by
    unfold wOk
    rw [hl]
    simp [Fk]
    omega
  refine ⟨hok, ?_, ?_, ?_, ?_⟩
  · unfold wErr
    rw [hl, if_neg (by omega)]
  · unfold wrt
    rw [if_pos hok]
    have hc : cutW (k : Int) 16 = (k : Int) := cutW_of_lt _ _ (by omega) (by have : mostW 16 = 65535 := by decide
                                                                             omega)
    have : (Fk k).wd = 16 := rfl
    rw [this, hc]
    simp [Fk, List.range_succ]
  · unfold bErr
    rw [if_neg]
    show ¬ (k : Int) = 4096
    omega
  · refine (if_neg (show ¬ (k : Int) = 4096 by omega)).trans ?_
    simp [Fk]
theorem fk_seen (k : Nat) : flushW (Fk k).ws (Fk k).es = [(((k + 1) / 2 * 2 - 2 : Nat) : Int), ((k / 2 * 2 - 1 : Nat) : Int)] := by
  induction k with
  | zero => rfl
  | succ k ih =>
    have he : (Fk (k + 1)).es = (Fk k).es ++ [(((k % 2 : Nat) : Int), (k : Int), (k : Int))] := by simp [Fk, List.range_succ]
    have hw : (Fk (k + 1)).ws = (Fk k).ws := rfl
    rw [he, hw, flushW_snoc, ih]
    rcases (by omega : k % 2 = 0 ∨ k % 2 = 1) with h | h
    · rw [h]
      simp
      omega
    · rw [h]
      simp
      omega
theorem fk_full : wOk (Fk 4096) 1 = false ∧ wErr (Fk 4096) 1 = 4 ∧ wrt (Fk 4096) 1 1 = Fk 4096 ∧ wOk (Fk 4096) 2 = false ∧ wErr (Fk 4096) 2 = 0 ∧ wrt (Fk 4096) 2 1 = Fk 4096 ∧ bErr (Fk 4096) = 4 ∧ bar (Fk 4096) = Fk 4096 := by
  have hl := fk_len 4096
  have hw : (Fk 4096).ws.length = 2 := rfl
  have h1 : wOk (Fk 4096) 1 = false := by unfold wOk; rw [hl]; simp
  have h2 : wOk (Fk 4096) 2 = false := by unfold wOk; rw [hl]; simp
  refine ⟨h1, ?_, ?_, h2, ?_, ?_, if_pos rfl, if_pos rfl⟩
  · unfold wErr; rw [hl, hw, if_pos (by omega)]
  · unfold wrt; rw [h1]; rfl
  · unfold wErr; rw [hl, hw, if_neg (by omega)]
  · unfold wrt; rw [h2]; rfl
def Fz : Dst := { wd := 16, ws := [4094, 4095], es := [], ep := 0 }
def Fy : Dst := { wd := 16, ws := [4094, 4095], es := [(1, 1, 0)], ep := 0 }
theorem fk_flu : flu (Fk 4096) = Fz := by
  unfold flu
  rw [fk_seen]
  rfl
theorem fk_read : readD (Fk 4096) 1 = 4095 := by
  unfold readD
  rw [if_pos (by constructor <;> decide), fk_seen]
  rfl
theorem fk_last : (Fk 4096).es[4095]? = some (1, 4095, 4095) := by
  unfold Fk
  rw [List.getElem?_map, List.getElem?_range (by omega)]
  rfl
theorem fz_write : wOk Fz 1 = true ∧ wErr Fz 1 = 0 ∧ wrt Fz 1 1 = Fy := by
  refine ⟨by decide, by decide, ?_⟩
  unfold wrt
  rw [if_pos (by decide)]
  rfl
theorem nothing_ok (w : World) : Calls Try.prog 29 #[] w fun e w' => e = .returned (.bool true) ∧ Below w.heap.size w w' := by
  have h17 := nil_write (W := w)
  replace h17 := Lib.hid h17
  have h26 := nil_barrier (W := w)
  replace h26 := Lib.hid h26
  have h20 := nil_flush (W := w)
  replace h20 := Lib.hid h20
  have h18 := nil_read (W := w)
  replace h18 := Lib.hid h18
  go_enter Try.func29, Try.ntmps29
  go_wp2_with (first
    | (go_at_call 17; (with_reducible refine h17.out.mono ?_); rintro e w' ⟨rfl, hww⟩; cases hww)
    | (go_at_call 26; (with_reducible refine h26.out.mono ?_); rintro e w' ⟨rfl, hww⟩; cases hww)
    | (go_at_call 20; (with_reducible refine h20.out.mono ?_); rintro e w' ⟨rfl, hww⟩; cases hww)
    | (go_at_call 18; (with_reducible refine h18.out.mono ?_); rintro e W1 ⟨rfl, hB1⟩; have h12 := nil_kept (W := W1); replace h12 := Lib.hid h12; have h19 := nil_seen (W := W1); replace h19 := Lib.hid h19)
    | (go_at_call 12; (with_reducible refine h12.out.mono ?_); rintro e w' ⟨rfl, hww⟩; cases hww)
    | (go_at_call 19; (with_reducible refine h19.out.mono ?_); rintro e W2 ⟨rfl, hB2⟩; have h13 := nil_cache (W := W2); replace h13 := Lib.hid h13; have h14 := nil_epoch (W := W2); replace h14 := Lib.hid h14; have h25 := nil_blocks (W := W2); replace h25 := Lib.hid h25; have h24 := nil_width (W := W2); replace h24 := Lib.hid h24; have h22 := nil_copy (W := W2); replace h22 := Lib.hid h22)
    | (go_at_call 13; (with_reducible refine h13.out.mono ?_); rintro e w' ⟨rfl, hww⟩; cases hww)
    | (go_at_call 14; (with_reducible refine h14.out.mono ?_); rintro e w' ⟨rfl, hww⟩; cases hww)
    | (go_at_call 25; (with_reducible refine h25.out.mono ?_); rintro e w' ⟨rfl, hww⟩; cases hww)
    | (go_at_call 24; (with_reducible refine h24.out.mono ?_); rintro e w' ⟨rfl, hww⟩; cases hww)
    | (go_at_call 22; (with_reducible refine h22.out.mono ?_); rintro e w' ⟨rfl, hww⟩; cases hww))
  go_ret
  exact ⟨rfl, below_and hB1 hB2⟩
theorem slice_at {A A' : Option Addr} {n m c c' : Nat} (h : Value.slice A n c = Value.slice A' m c') : A = A' := by
  injection h
/-- A disk that a function made. -/
def OwnD (w : World) (d : Nat) (D : Dst) (W : World) : Prop := ∃ fp, Disk W w.heap.size d fp D ∧ Below w.heap.size w W
section
variable {w W : World} {d : Nat} {D D2 : Dst}
theorem ownd_new (hB : Below w.heap.size w W) : Calls Try.prog 16 #[.int .i64 2, .int .i64 16, .slice none 0 0] W fun e w' => ∃ d, e = .returned (.tuple #[.pointer (some ⟨d, 0, none⟩), .int .i64 0]) ∧ OwnD w d (Fk 0) w' := by
  have h := new_disk (w := W) 2 16 none 0 0 W.heap.size [] (by simpa using (Reads.none_ : Reads W W.heap.size 1 none 0 [])) (Nat.le_refl _) (by omega) (by omega) (by omega) (by omega) (by omega) (by simp)
  refine h.mono ?_
  rintro e w' ⟨d, fp, rfl, hT, hB2⟩
  exact ⟨d, rfl, fp, hT.base_le hB.size, below_and hB hB2⟩
theorem ownd_wrote {fp fp' : List Nat} {w' : World} (h : Disk W w.heap.size d fp D) (hB : Below w.heap.size w W) (h1 : Disk w' w.heap.size d fp' D2) (h3 : Only fp W w') : OwnD w d D2 w' :=
  ⟨fp', h1, hB.trans (h3.below hB.size (fun k hk => (h.ge k hk).1))⟩
theorem ownd_write (h : OwnD w d D W) (b x : Int) (x0 : 0 ≤ x) (x1 : x ≤ 4294967295) {o : Bool} {r : Int} (ho : wOk D b = o) (hr : wErr D b = r) (hD : wrt D b x = D2) : Calls Try.prog 17 #[.pointer (some ⟨d, 0, none⟩), .int .i64 b, .int .u32 x] W fun e w' => e = .returned (.tuple #[.bool o, .int .i64 r]) ∧ OwnD w d D2 w' := by
  obtain ⟨fp, hT, hB⟩ := h
  have := write_disk hT b x x0 x1
  rw [ho, hr, hD] at this
  exact this.mono fun e w' ⟨he, fp', h1, _, h3⟩ => ⟨he, ownd_wrote hT hB h1 h3⟩
theorem ownd_barrier (h : OwnD w d D W) {r : Int} (hr : bErr D = r) (hD : bar D = D2) : Calls Try.prog 26 #[.pointer (some ⟨d, 0, none⟩)] W fun e w' => e = .returned (.int .i64 r) ∧ OwnD w d D2 w' := by
  obtain ⟨fp, hT, hB⟩ := h
  have := barrier_disk hT
  rw [hr, hD] at this
  exact this.mono fun e w' ⟨he, h1, h3⟩ => ⟨he, ownd_wrote hT hB h1 h3⟩
theorem ownd_flush (h : OwnD w d D W) (hD : flu D = D2) : Calls Try.prog 20 #[.pointer (some ⟨d, 0, none⟩)] W fun e w' => e = .returned (.int .i64 0) ∧ OwnD w d D2 w' := by
  obtain ⟨fp, hT, hB⟩ := h
  have := flush_disk hT
  rw [hD] at this
  exact this.mono fun e w' ⟨he, fp', h1, _, h3⟩ => ⟨he, ownd_wrote hT hB h1 h3⟩
theorem OwnD.new {W' : World} (h : OwnD w d D W) (hb : Below W.heap.size W W') : OwnD w d D W' := by
  obtain ⟨fp, hT, hB⟩ := h
  exact ⟨fp, hT.new hb, below_and hB hb⟩
end
set_option maxRecDepth 100000 in
theorem full_ok (w : World) : Calls Try.prog 28 #[] w fun e w' => e = .returned (.bool true) ∧ Below w.heap.size w w' := by
  have hnew := ownd_new (Below.refl w.heap.size w)
  replace hnew := Lib.hid hnew
  go_enter Try.func28, Try.ntmps28
  go_wp2_with (go_at_call 16; (with_reducible refine hnew.out.mono ?_); rintro e W1 ⟨d, rfl, hO⟩; clear hnew)
  go_loopw [25] (fun i wr => ∃ k : Nat, k ≤ 4096 ∧ i = .int .i64 k ∧ OwnD w d (Fk k) wr) (fun i _ => 4096 - (intOf i).toNat)
  case atStart => exact ⟨0, by omega, rfl, hO⟩
  case round =>
    clear hO
    clear W1
    obtain ⟨k, hk, rfl, hO⟩ := hrel
    by_cases hlt : k < 4096
    · have v1 : (k : Int) < 4096 := by omega
      have v0 : 0 ≤ (k : Int) := by omega
      obtain ⟨s1, s2, s3, s4, s5⟩ := fk_step hlt
      obtain ⟨r, hr⟩ : ∃ r : Nat, k % 2 = r := ⟨_, rfl⟩
      have hm2 : (k : Int).tmod 2 = (r : Int) := by rw [Int.tmod_eq_emod_of_nonneg (by omega)]; omega
      rw [hr] at s1 s2 s3
      have h17 := ownd_write hO (r : Int) (k : Int) (by omega) (by omega) s1 s2 s3
      clear hr
      replace h17 := Lib.hid h17
      clear hO s1 s2 s3
      go_wp2_with (first
        | (go_at_call 17; (with_reducible refine h17.out.mono ?_); rintro e W2 ⟨rfl, hO2⟩; clear h17; have h26 := ownd_barrier hO2 s4 s5; replace h26 := Lib.hid h26)
        | (go_at_call 26; (with_reducible refine h26.out.mono ?_); rintro e W3 ⟨rfl, hO3⟩; clear h26))
      go_roundw
      case rel => exact ⟨k + 1, by omega, by go_num, hO3⟩
      case measure => simp [intOf]; omega
    · have v1 : ¬ (k : Int) < 4096 := by omega
      have hk2 : k = 4096 := by omega
      rw [hk2] at hO
      obtain ⟨s1, s2, s3, s4, s5, s6, s7, s8⟩ := fk_full
      have h17a := ownd_write hO 1 1 (by omega) (by omega) s1 s2 s3
      replace h17a := Lib.hid h17a
      clear hO hk2
      have hcell : (encs (Fk 4096).es)[12287]? = some (.int .i64 4095) := by
        have := encs_at (Fk 4096).es 4095 2 _ fk_last (by omega)
        exact this
      have hel := fk_len 4096
      have hC13 : ∀ W, OwnD w d (Fk 4096) W → Calls Try.prog 13 #[.pointer (some ⟨d, 0, none⟩)] W fun e w' => ∃ A cap, e = .returned (.slice A 4096 cap) ∧ w'.ownsRow W.heap.size 38 3 (.slice A 4096 cap) 4096 (encs (Fk 4096).es) ∧ Below W.heap.size W w' := fun W ⟨fp, hT, _⟩ => by
        have := cache_disk hT
        rwa [hel] at this
      have hC14 : ∀ W, OwnD w d (Fk 4096) W → Calls Try.prog 14 #[.pointer (some ⟨d, 0, none⟩)] W fun e w' => e = .returned (.int .i64 4096) ∧ W = w' := fun W ⟨fp, hT, _⟩ => epoch_disk hT
      have hC18 : ∀ W, OwnD w d (Fk 4096) W → Calls Try.prog 18 #[.pointer (some ⟨d, 0, none⟩), .int .i64 1] W fun e w' => e = .returned (.int .u32 4095) ∧ Below W.heap.size W w' := fun W ⟨fp, hT, _⟩ => by
        have := read_disk hT 1 (by omega)
        rwa [fk_read] at this
      have hC13y : ∀ W, OwnD w d Fy W → Calls Try.prog 13 #[.pointer (some ⟨d, 0, none⟩)] W fun e w' => ∃ A cap, e = .returned (.slice A 1 cap) ∧ Below W.heap.size W w' := fun W ⟨fp, hT, _⟩ => (cache_disk hT).mono fun e w' ⟨A, cap, h1, _, h3⟩ => ⟨A, cap, h1, h3⟩
      have hC14y : ∀ W, OwnD w d Fy W → Calls Try.prog 14 #[.pointer (some ⟨d, 0, none⟩)] W fun e w' => e = .returned (.int .i64 0) ∧ W = w' := fun W ⟨fp, hT, _⟩ => epoch_disk hT
      have hC12y : ∀ W, OwnD w d Fy W → Calls Try.prog 12 #[.pointer (some ⟨d, 0, none⟩)] W fun e w' => ∃ A cap, e = .returned (.slice A 2 cap) ∧ w'.ownsRow W.heap.size 36 1 (.slice A 2 cap) 2 (([4094, 4095] : List Int).map (Value.int .u32)) ∧ Below W.heap.size W w' := fun W ⟨fp, hT, _⟩ => kept_disk hT
      replace hcell := Lib.hid hcell
      replace hC13 := Lib.hid hC13
      replace hC14 := Lib.hid hC14
      replace hC18 := Lib.hid hC18
      replace hC13y := Lib.hid hC13y
      replace hC14y := Lib.hid hC14y
      replace hC12y := Lib.hid hC12y
      clear s1 s2 s3 hel
      go_wp2_with (first
        | (go_at_call 17; (with_reducible refine h17a.out.mono ?_); rintro e W2 ⟨rfl, hO2⟩; clear h17a; have h17b := ownd_write hO2 2 1 (by omega) (by omega) s4 s5 s6; replace h17b := Lib.hid h17b; clear s4 s5 s6)
        | (go_at_call 17; (with_reducible refine h17b.out.mono ?_); rintro e W3 ⟨rfl, hO3⟩; clear h17b; have h26 := ownd_barrier hO3 s7 s8; replace h26 := Lib.hid h26; clear s7 s8)
        | (go_at_call 26; (with_reducible refine h26.out.mono ?_); rintro e W4 ⟨rfl, hO4⟩; clear h26; have h13 := hC13.out W4 hO4; replace h13 := Lib.hid h13)
        | (go_at_call 13; (with_reducible refine h13.out.mono ?_); rintro e W5 ⟨A5, c5, rfl, hr5, hB5⟩; clear h13; obtain ⟨g5, cap5, hv5, _, _⟩ := hr5.form (by omega); have hA5 : A5 = some ⟨g5, 0, none⟩ := slice_at hv5; subst hA5; have q5 := hr5.cellAt 12287 (by omega); rw [hcell.out] at q5; have hO5 := hO4.new hB5; have h14 := hC14.out W5 hO5; replace h14 := Lib.hid h14; have h18 := hC18.out W5 hO5; replace h18 := Lib.hid h18; clear hr5 hv5)
        | (go_at_call 14; (with_reducible refine h14.out.mono ?_); rintro e w' ⟨rfl, hww⟩; cases hww; clear h14)
        | (go_at_call 18; (with_reducible refine h18.out.mono ?_); rintro e W6 ⟨rfl, hB6⟩; clear h18; have hO6 := hO5.new hB6; have h20 := ownd_flush hO6 fk_flu; replace h20 := Lib.hid h20)
        | (go_at_call 20; (with_reducible refine h20.out.mono ?_); rintro e W7 ⟨rfl, hO7⟩; clear h20; have h17c := ownd_write hO7 1 1 (by omega) (by omega) fz_write.1 fz_write.2.1 fz_write.2.2; replace h17c := Lib.hid h17c)
        | (go_at_call 17; (with_reducible refine h17c.out.mono ?_); rintro e W8 ⟨rfl, hO8⟩; clear h17c; have h13y := hC13y.out W8 hO8; replace h13y := Lib.hid h13y)
        | (go_at_call 13; (with_reducible refine h13y.out.mono ?_); rintro e W9 ⟨A9, c9, rfl, hB9⟩; clear h13y; have hO9 := hO8.new hB9; have h14y := hC14y.out W9 hO9; replace h14y := Lib.hid h14y; have h12y := hC12y.out W9 hO9; replace h12y := Lib.hid h12y)
        | (go_at_call 14; (with_reducible refine h14y.out.mono ?_); rintro e w' ⟨rfl, hww⟩; cases hww; clear h14y)
        | (go_at_call 12; (with_reducible refine h12y.out.mono ?_); rintro e Wa ⟨Aa, ca, rfl, hra, hBa⟩; clear h12y; have hOa := hO9.new hBa; have hal := (Below.refl Wa.heap.size Wa).alloc (Nat.le_refl _) (.cells #[.int .u32 4094, .int .u32 4095] 36); have h15 := words_eq [4094, 4095] (row_new hra hal) (lit_own Wa 36 (([4094, 4095] : List Int).map (Value.int .u32)) 1 2 (by omega) rfl) (by omega); have h15' : Calls Try.prog 15 #[.slice Aa 2 ca, .slice (some ⟨Wa.heap.size, 0, none⟩) 2 2] (Wa.alloc (.cells #[.int .u32 4094, .int .u32 4095] 36)) (fun e w' => e = .returned (.bool true) ∧ Below (Wa.alloc (.cells #[.int .u32 4094, .int .u32 4095] 36)).heap.size (Wa.alloc (.cells #[.int .u32 4094, .int .u32 4095] 36)) w') := h15; clear h15; replace h15' := Lib.hid h15')
        | (go_at_call 15; (with_reducible refine h15'.out.mono ?_); rintro e Wb ⟨rfl, hBb⟩; clear h15'))
      go_ret
      obtain ⟨_, _, hBo⟩ := hOa.new (after_alloc hBb)
      exact ⟨rfl, hBo⟩
end Go.Proofs.Ythhchccjpgpibaa
