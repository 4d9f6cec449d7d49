/- Disks: New. -/
import Derived.Test.YthhchccjpgpibaaDiskC
namespace Go.Proofs.Ythhchccjpgpibaa
open Go Go.RowKit
set_option linter.unusedVariables false
set_option linter.unusedSimpArgs false
set_option maxHeartbeats 4000000
theorem new_blocks (b wd : Int) (A : Option Addr) (n c : Nat) (w : World) (hb : b < 1 ∨ 16 < b) : Calls Try.prog 16 #[.int .i64 b, .int .i64 wd, .slice A n c] w fun e w' => e = .returned (.tuple #[.pointer none, .int .i64 340]) ∧ w = w' := by
  rcases hb with hb | hb
  · go_enter Try.func16, Try.ntmps16
    go_wp2
    go_ret2
    exact ⟨rfl, rfl⟩
  · have hb2 : ¬ b < 1 := by omega
    go_enter Try.func16, Try.ntmps16
    go_wp2
    go_ret2
    exact ⟨rfl, rfl⟩
theorem new_width (b wd : Int) (A : Option Addr) (n c : Nat) (w : World) (b1 : 1 ≤ b) (b2 : b ≤ 16) (hw : wd < 1 ∨ 16 < wd) (w1 : -9223372036854775808 ≤ wd) (w2 : wd ≤ 9223372036854775807) :
    Calls Try.prog 16 #[.int .i64 b, .int .i64 wd, .slice A n c] w fun e w' => e = .returned (.tuple #[.pointer none, .int .i64 220]) ∧ w = w' := by
  replace hw := Lib.hid hw
  go_enter Try.func16, Try.ntmps16
  go_wp2_with (go_at_call 35; refine (most_bad wd _ hw.out w1 w2).mono ?_; rintro e w' ⟨rfl, rfl⟩)
  go_ret2
  exact ⟨rfl, rfl⟩
theorem new_many (b wd : Int) (A : Option Addr) (n c : Nat) (w : World) (b1 : 1 ≤ b) (b2 : b ≤ 16) (w1 : 1 ≤ wd) (w2 : wd ≤ 16) (hn : b < n) :
    Calls Try.prog 16 #[.int .i64 b, .int .i64 wd, .slice A n c] w fun e w' => e = .returned (.tuple #[.pointer none, .int .i64 2]) ∧ w = w' := by
  go_enter Try.func16, Try.ntmps16
  go_wp2_with (go_at_call 35; refine (most_ok wd _ w1 w2).mono ?_; rintro e w' ⟨rfl, rfl⟩)
  go_ret2
  exact ⟨rfl, rfl⟩
/-- The words of a new disk, when some were taken over. -/
def newWs (l : List Int) (wd : Int) (b k : Nat) : List Int := (l.take k).map (cutW · wd) ++ List.replicate (b - k) 0
theorem newWs_len (l : List Int) (wd : Int) (b k : Nat) (hk : k ≤ l.length) (hb : l.length ≤ b) : (newWs l wd b k).length = b := by simp [newWs]; omega
theorem newWs_step (l : List Int) (wd : Int) (b k : Nat) (hk : k < l.length) (hb : l.length ≤ b) : (newWs l wd b k).set k (cutW (l[k]?.getD 0) wd) = newWs l wd b (k + 1) := by
  unfold newWs
  have h1 : (l.take k).length = k := by simp; omega
  rw [List.set_append_right _ _ (by simp; omega), List.take_succ_eq_append_getElem hk, List.map_append]
  simp only [List.length_map, h1, Nat.sub_self, List.append_assoc]
  congr 1
  rw [show b - k = (b - (k + 1)) + 1 by omega, List.replicate_succ]
  simp [hk]
theorem newWs_done (l : List Int) (wd : Int) (b : Nat) : newWs l wd b l.length = l.map (cutW · wd) ++ List.replicate (b - l.length) 0 := by simp [newWs]
theorem reads_word {w : World} {B n : Nat} {A : Option Addr} {l : List Int} {kd : IntKind} (h : Reads w B 1 A n (l.map (Value.int kd))) {k : Nat} (hk : k < n) :
    ∃ ad, A = some ad ∧ w.cell? (ad.add k) = some (.int kd (l[k]?.getD 0)) := by
  obtain ⟨ad, u, e, hb, hx, hc⟩ := h.at_ hk
  rw [List.getElem?_map] at hx
  cases hl : l[k]? with
  | none => rw [hl] at hx; cases hx
  | some x => rw [hl] at hx; simp at hx; subst hx; exact ⟨ad, e, hc⟩
theorem made_zero (b : Nat) : madeCells #[Value.int .u32 0] b = ((newWs [] 0 b 0).map (Value.int .u32)).toArray := by
  apply Array.ext'
  apply List.ext_getElem
  · simp [newWs, madeCells]
  · intro i h1 h2
    simp [newWs, madeCells, Nat.mod_one]
theorem newWs_bd (l : List Int) (wd : Int) (b k : Nat) (w1 : 1 ≤ wd) (w2 : wd ≤ 16) : ∀ x ∈ newWs l wd b k, 0 ≤ x ∧ x ≤ 65535 := by
  intro x hx
  rcases List.mem_append.1 hx with h | h
  · obtain ⟨y, _, rfl⟩ := List.mem_map.1 h
    have := cutW_bd y wd w1 w2
    have := mostW_bd wd w1 w2
    omega
  · have := List.eq_of_mem_replicate h
    omega
/-- A block known whole, as a row that is owned. -/
theorem own_of_blk {W : World} {g e base b n' : Nat} {cs : List Value} (h : Blk W g e cs.toArray) (hb : base ≤ g) (hl : cs.length = b) (hn : b = n') (hm : b ≤ 65536) : W.ownsRow base e 1 (.slice (some ⟨g, 0, none⟩) b b) n' cs := by
  subst hn
  refine ⟨by omega, .inr ⟨g, b, cs.toArray, rfl, hb, h, Nat.le_refl _, by unfold maxLen; omega, by simpa using hl, ?_⟩⟩
  simp only [Nat.mul_one, List.toList_toArray]
  exact List.take_of_length_le (by omega)
set_option maxRecDepth 100000 in
theorem new_ok (b : Nat) (wd : Int) (A : Option Addr) (n c B : Nat) (l : List Int) (w : World) (hrd : Reads w B 1 A n (l.map (Value.int .u32))) (hB : B ≤ w.heap.size) (b1 : 1 ≤ b) (b2 : b ≤ 16) (w1 : 1 ≤ wd) (w2 : wd ≤ 16) (hn : n ≤ b) (hl : ∀ x ∈ l, 0 ≤ x ∧ x ≤ 4294967295) :
    Calls Try.prog 16 #[.int .i64 b, .int .i64 wd, .slice A n c] w fun e w' => ∃ d p v, e = .returned (.tuple #[.pointer (some ⟨d, 0, none⟩), .int .i64 0]) ∧ Dsk w' w.heap.size d p v (.slice none 0 0) { wd := wd, ws := newWs l wd b n, es := [], ep := 0 } ∧ Below w.heap.size w w' := by
  have hmk := run_make_row' (P := Try.prog) 66 36 (.int .u32 0) 4 Try.underlying66 info36 rfl .i64 .i64 b (by omega) (by omega)
  have b1' : 1 ≤ (b : Int) := by omega
  have b2' : (b : Int) ≤ 16 := by omega
  have hnb : ¬ (b : Int) < n := by omega
  have hnb2 : decide (b < n) = false := by simp; omega
  go_enter Try.func16, Try.ntmps16
  go_wp2_with (go_at_call 35; refine (most_ok wd _ w1 w2).mono ?_; rintro e w' ⟨rfl, rfl⟩)
  clear hmk hnb2
  have g0 : Blk ((w.alloc (.cells (madeCells #[.int .u32 0] b) 36)).alloc (.cells #[.slice (some ⟨w.heap.size, 0, none⟩) b b] 66)) w.heap.size 36 ((newWs l wd b 0).map (Value.int .u32)).toArray := by
    have := (Blk.new w 36 (madeCells #[.int .u32 0] b)).alloc (.cells #[.slice (some ⟨w.heap.size, 0, none⟩) b b] 66)
    rw [made_zero] at this ⊢
    simpa [newWs] using this
  have p0 := Blk.new (w.alloc (.cells (madeCells #[.int .u32 0] b) 36)) 66 #[.slice (some ⟨w.heap.size, 0, none⟩) b b]
  rw [World.size_alloc] at p0
  have B0 := ((Below.refl w.heap.size w).alloc (Nat.le_refl _) (.cells (madeCells #[.int .u32 0] b) 36)).alloc (by simp) (.cells #[.slice (some ⟨w.heap.size, 0, none⟩) b b] 66)
  generalize (w.alloc (.cells (madeCells #[.int .u32 0] b) 36)).alloc (.cells #[.slice (some ⟨w.heap.size, 0, none⟩) b b] 66) = W at g0 p0 B0 ⊢
  go_loopw [35] (fun i wr => ∃ k : Nat, k ≤ n ∧ i = .int .i64 k ∧ Blk wr w.heap.size 36 ((newWs l wd b k).map (Value.int .u32)).toArray ∧ Blk wr (w.heap.size + 1) 66 #[.slice (some ⟨w.heap.size, 0, none⟩) b b] ∧ Below w.heap.size w wr) (fun i _ => n - (intOf i).toNat)
  case atStart => exact ⟨0, by omega, rfl, g0, p0, B0⟩
  case round =>
    clear g0 p0 B0
    obtain ⟨k, hk, rfl, g0, p0, B0⟩ := hrel
    have hll : l.length = n := by have := hrd.1; simpa using this
    by_cases hlt : k < n
    · obtain ⟨ad, rfl, q1⟩ := reads_word (hrd.below (B0.mono hB)) hlt
      have hx := hl (l[k]?.getD 0) (by rw [List.getElem?_eq_getElem (by omega)]; exact List.getElem_mem (by omega))
      have hst := newWs_step l wd b k (by omega) (by omega)
      have hlen := newWs_len l wd b k (by omega) (by omega)
      generalize l[k]?.getD 0 = x at q1 hx hst
      obtain ⟨hx0, hx1⟩ := hx
      have hk0 : (0 : Int) ≤ (k : Int) := by omega
      have hk1 : (k : Int) < (n : Int) := by omega
      have hk2 : (k : Int) < (b : Int) := by omega
      have hcell : wr.cell? ⟨w.heap.size, k, none⟩ = some (.int .u32 ((newWs l wd b k)[k]?.getD 0)) := by
        rw [g0.cell k]; simp [show k < (newWs l wd b k).length by omega]
      have hfz := g0.frozen k
      have hbox := p0.cell 0
      simp only [List.getElem?_toArray, List.getElem?_cons_zero] at hbox
      have gset := g0.set_ k (.int .u32 (cutW x wd))
      rw [List.setIfInBounds_toArray, ← List.map_set, hst] at gset
      have pset := p0.far (p := ⟨w.heap.size, k, none⟩) (by show w.heap.size + 1 ≠ w.heap.size; omega) (.int .u32 (cutW x wd))
      have Bset := B0.setCell (p := ⟨w.heap.size, k, none⟩) (Nat.le_refl _) (.int .u32 (cutW x wd))
      generalize (newWs l wd b k)[k]?.getD 0 = old at hcell
      replace hst := Lib.hid hst
      replace hlen := Lib.hid hlen
      replace hll := Lib.hid hll
      go_wp2_with fail
      go_region_held3 (fun w' => w'.cell? ⟨w.heap.size + 1, 0, none⟩ = some (.slice (some ⟨w.heap.size, 0, none⟩) b b)) (go_keep) (first | (go_at_call 36; refine (cut_ok x wd _ w1 w2 hx0 hx1).mono ?_; rintro e w' ⟨rfl, rfl⟩))
      all_goals
        go_wp2
        go_roundw
        case rel => first | exact ⟨k + 1, by omega, by go_num, gset.drew, pset.drew, Bset.drew⟩ | ((repeat apply Exists.intro); exact ⟨⟨k + 1, by omega, by go_num, gset.drew, pset.drew, Bset.drew⟩, rfl⟩)
        case measure => simp [intOf]; omega
    · obtain rfl : k = n := by omega
      have hlen := newWs_len l wd b k (by omega) (by omega)
      clear hrd
      go_wp2_with (refine wpList_build rfl 62 _ rfl #[.pointer (some ⟨w.heap.size + 1, 0, none⟩), .int .i64 wd, .slice none 0 0, .int .i64 0] rfl ?_)
      go_ret2
      refine ⟨wr.heap.size, w.heap.size + 1, .slice (some ⟨w.heap.size, 0, none⟩) b b, rfl, ?_, B0.alloc B0.size _⟩
      refine ⟨Blk.new _ _ _, p0.alloc _, own_of_blk (g0.alloc _) (Nat.le_refl _) (by simp [hlen]) (by simpa using hlen.symm) (by omega), World.ownsRow_nil _ _ _ _, B0.size, by omega, ?_⟩
      exact { w1 := w1, w2 := w2, n1 := by show 1 ≤ (newWs l wd b k).length; omega, n2 := by show (newWs l wd b k).length ≤ 16; omega, wb := fun x hx => newWs_bd l wd b k w1 w2 x hx, ec := by simp, eb := by simp, p1 := by simp, p2 := by simp }
end Go.Proofs.Ythhchccjpgpibaa
