/- Disks: what lies in memory; the cloning of lists. -/
import Derived.Test.YthhchccjpgpibaaWord
namespace Go.Proofs.Ythhchccjpgpibaa
open Go Go.RowKit
set_option linter.unusedVariables false
set_option linter.unusedSimpArgs false
set_option maxHeartbeats 4000000
/-- An entry: block, word, epoch. -/
abbrev Ent := Int × Int × Int
def encE (x : Ent) : List Value := [.int .i64 x.1, .int .u32 x.2.1, .int .i64 x.2.2]
def encs (es : List Ent) : List Value := es.flatMap encE
theorem encs_len (es : List Ent) : (encs es).length = es.length * 3 := by
  induction es with
  | nil => rfl
  | cons x es ih => simp only [encs, List.flatMap_cons, List.length_append, List.length_cons] at ih ⊢; rw [ih]; simp [encE]; omega
theorem encs_snoc (es : List Ent) (x : Ent) : encs (es ++ [x]) = encs es ++ encE x := by simp [encs]
theorem encs_one (es : List Ent) : ∀ u ∈ encs es, u.oneCell' = true := by
  intro u hu
  obtain ⟨x, _, hx⟩ := List.mem_flatMap.1 hu
  simp [encE] at hx
  rcases hx with rfl | rfl | rfl <;> rfl
theorem encs_at (es : List Ent) : ∀ (k j : Nat) (x : Ent), es[k]? = some x → j < 3 → (encs es)[k * 3 + j]? = (encE x)[j]? := by
  induction es with
  | nil => intro k j x h; cases h
  | cons y es ih =>
    intro k j x h hj
    cases k with
    | zero =>
      simp at h
      subst h
      rw [show encs (y :: es) = encE y ++ encs es from by simp [encs], List.getElem?_append_left (by simp [encE]; omega)]
      simp
    | succ k =>
      rw [show encs (y :: es) = encE y ++ encs es from by simp [encs], List.getElem?_append_right (by simp [encE]; omega)]
      have := ih k j x (by simpa using h) hj
      rw [← this]
      congr 1
      simp [encE]; omega
/-- A disk's state. -/
structure Dst where
  wd : Int
  ws : List Int
  es : List Ent
  ep : Int
structure Dst.Ok (D : Dst) : Prop where
  w1 : 1 ≤ D.wd
  w2 : D.wd ≤ 16
  n1 : 1 ≤ D.ws.length
  n2 : D.ws.length ≤ 16
  wb : ∀ x ∈ D.ws, 0 ≤ x ∧ x ≤ 65535
  ec : D.es.length ≤ 4096
  eb : ∀ x ∈ D.es, 0 ≤ x.1 ∧ x.1 < D.ws.length ∧ 0 ≤ x.2.1 ∧ x.2.1 ≤ 65535 ∧ 0 ≤ x.2.2 ∧ x.2.2 ≤ 4096
  p1 : 0 ≤ D.ep
  p2 : D.ep ≤ 4096
/-- A disk in memory. -/
structure Dsk (W : World) (base d p : Nat) (v c : Value) (D : Dst) : Prop where
  hd : Blk W d 62 #[.pointer (some ⟨p, 0, none⟩), .int .i64 D.wd, c, .int .i64 D.ep]
  hp : Blk W p 66 #[v]
  hv : W.ownsRow base 36 1 v D.ws.length (D.ws.map (Value.int .u32))
  hc : W.ownsRow base 38 3 c D.es.length (encs D.es)
  bd : base ≤ d
  bp : base ≤ p
  ok : D.Ok
def fpOf (d p : Nat) (v c : Value) : List Nat := d :: p :: (v.ownBlock.toList ++ c.ownBlock.toList)
/-- A disk in memory, with the blocks that are its own. -/
def Disk (W : World) (base d : Nat) (fp : List Nat) (D : Dst) : Prop := ∃ p v c, Dsk W base d p v c D ∧ fp = fpOf d p v c
section
variable {W W' : World} {base d p : Nat} {v c : Value} {D : Dst} {fp fq : List Nat}
theorem Dsk.keep (h : Dsk W base d p v c D) (ho : Only fq W W') (hn : ∀ k, k ∈ fpOf d p v c → k ∉ fq) : Dsk W' base d p v c D :=
  ⟨h.hd.only ho (hn d (by simp [fpOf])), h.hp.only ho (hn p (by simp [fpOf])), own_only h.hv ho (fun k hk => hn k (by simp [fpOf, hk])), own_only h.hc ho (fun k hk => hn k (by simp [fpOf, hk])), h.bd, h.bp, h.ok⟩
theorem Disk.keep (h : Disk W base d fp D) (ho : Only fq W W') (hn : ∀ k, k ∈ fp → k ∉ fq) : Disk W' base d fp D := by
  obtain ⟨p, v, c, h, rfl⟩ := h
  exact ⟨p, v, c, h.keep ho hn, rfl⟩
theorem Disk.new (h : Disk W base d fp D) (hb : Below W.heap.size W W') : Disk W' base d fp D := h.keep (only_of_below [] hb) (by simp)
theorem Disk.ck {B : Nat} (h : Disk W base d fp D) (k : CellsKept B W W') : Disk W' base d fp D := by
  obtain ⟨p, v, c, h, rfl⟩ := h
  exact ⟨p, v, c, ⟨h.hd.ck k, h.hp.ck k, own_ck h.hv k, own_ck h.hc k, h.bd, h.bp, h.ok⟩, rfl⟩
theorem Dsk.ge (h : Dsk W base d p v c D) : ∀ k, k ∈ fpOf d p v c → base ≤ k ∧ k < W.heap.size := by
  intro k hk
  simp only [fpOf, List.mem_cons, List.mem_append, Option.mem_toList] at hk
  rcases hk with rfl | rfl | hk | hk
  · exact ⟨h.bd, h.hd.lt⟩
  · exact ⟨h.bp, h.hp.lt⟩
  · exact h.hv.lt k hk
  · exact h.hc.lt k hk
theorem Disk.ge (h : Disk W base d fp D) : ∀ k, k ∈ fp → base ≤ k ∧ k < W.heap.size := by
  obtain ⟨p, v, c, h, rfl⟩ := h
  exact h.ge
theorem Disk.ok (h : Disk W base d fp D) : D.Ok := by
  obtain ⟨p, v, c, h, rfl⟩ := h
  exact h.ok
theorem Dsk.cells (h : Dsk W base d p v c D) : ∀ k o, k ∈ fpOf d p v c → W.heap[k]? = some o → o.isCells = true := by
  intro k o hk ho
  simp only [fpOf, List.mem_cons, List.mem_append, Option.mem_toList] at hk
  rcases hk with rfl | rfl | hk | hk
  · exact blk_cells h.hd ho
  · exact blk_cells h.hp ho
  · exact own_cells h.hv hk ho
  · exact own_cells h.hc hk ho
theorem Disk.cells (h : Disk W base d fp D) : ∀ k o, k ∈ fp → W.heap[k]? = some o → o.isCells = true := by
  obtain ⟨p, v, c, h, rfl⟩ := h
  exact h.cells
theorem Disk.base_le (h : Disk W base d fp D) {base' : Nat} (hb : base' ≤ base) : Disk W base' d fp D := by
  obtain ⟨p, v, c, h, rfl⟩ := h
  exact ⟨p, v, c, ⟨h.hd, h.hp, own_base h.hv hb, own_base h.hc hb, by have := h.bd; omega, by have := h.bp; omega, h.ok⟩, rfl⟩
end
theorem info36 : (Try.prog.info? 36).map (fun i => (i.zero, i.size, i.bytes)) = some (some (.int .u32 0), 1, 4) := by kernel_rfl
theorem info38 : (Try.prog.info? 38).map (fun i => (i.zero, i.size, i.bytes)) = some (some (.agg #[.int .i64 0, .int .u32 0, .int .i64 0]), 3, 24) := by kernel_rfl
theorem words_one (l : List Int) : ∀ u ∈ l.map (Value.int .u32), u.oneCell' = true := by
  intro u hu
  obtain ⟨x, _, rfl⟩ := List.mem_map.1 hu
  rfl
theorem own_cast {w : World} {base n n' : Nat} {e : TypeId} {size : Nat} {v : Value} {xs xs' : List Value} (h : w.ownsRow base e size v n xs) (hn : n = n') (hx : xs = xs') : w.ownsRow base e size v n' xs' := by
  subst hn; subst hx; exact h
theorem own_below {B : Nat} {a w w' : World} {e : TypeId} {size n : Nat} {v : Value} {xs : List Value} (h : Below B a w) (hB : B ≤ w.heap.size) (ho : w.ownsRow B e size v n xs) (hg : w.grownBy w' v.ownBlock) : Below B a w' :=
  h.grown hg hB (fun k hk => (ho.lt k hk).1)

theorem info31 : (Try.prog.info? 31).map (fun i => (i.zero, i.size, i.bytes)) = some (some (.agg #[.int .u8 0, .int .i64 0, .int .u32 0]), 3, 24) := by kernel_rfl
set_option maxRecDepth 100000 in
theorem clone46 (A : Option Addr) (n c B : Nat) (xs : List Value) (w : World) (h : Reads w B 1 A n xs) (h1 : ∀ u ∈ xs, u.oneCell' = true) (hn : n ≤ 65536) :
    Calls Try.prog 46 #[.slice A n c] w fun e w' => ∃ v, e = .returned v ∧ w'.ownsRow w.heap.size 36 1 v n xs ∧ Below w.heap.size w w' := by
  cases A with
  | none =>
    have hn0 : n = 0 := by
      rcases Nat.eq_zero_or_pos n with h0 | h0
      · exact h0
      · obtain ⟨ad, e, _⟩ := h.2 h0
        cases e
    have hx0 : xs = [] := List.eq_nil_of_length_eq_zero (by rw [h.1, hn0])
    subst hn0
    subst hx0
    have hq := fun wx => Lib.run_eql_slice_nil (P := Try.prog) wx 66 36 none 0 c 0 0 Try.underlying66
    go_enter Try.func46, Try.ntmps46
    go_wp2
    go_ret
    exact ⟨_, rfl, World.ownsRow_nil _ _ _ _, Below.refl _ _⟩
  | some ad =>
    obtain ⟨i0, hi, hz0, hz1, hz2⟩ := info_parts info36
    have hr0 : (w.alloc (.cells #[] 36)).ownsRow w.heap.size 36 1 (.slice (some ⟨w.heap.size, 0, none⟩) 0 0) 0 [] := World.ownsRow_made w #[] 0 (Nat.le_refl _) (by unfold maxLen; omega) rfl
    have hB0 := (Below.refl w.heap.size w).alloc (Nat.le_refl _) (.cells #[] 36)
    have hrd : Reads (w.alloc (.cells #[] 36)) B 1 (some ad) n xs := ⟨h.1, fun hn => by
      obtain ⟨ad', e, hb, hc⟩ := h.2 hn
      exact ⟨ad', e, hb, fun j u hu => cell_later hB0 (hc j u hu)⟩⟩
    have hq := fun wx => Lib.run_eql_slice_nil (P := Try.prog) wx 66 36 (some ad) n c 0 0 Try.underlying66
    go_enter Try.func46, Try.ntmps46
    go_wp2_with (at_builtin; refine wpList_append_any _ rfl (.tmp 5) (.tmp 6) 66 rfl w.heap.size 36 i0 _ 1 4 Try.underlying66 hi hz0 hz1 hz2 rfl (by omega) (.slice (some ⟨w.heap.size, 0, none⟩) 0 0) 0 [] rfl hr0 B (some ad) n c xs rfl hrd h1 (by simp only [maxLen]; omega) (by omega) hB0.size ?_; intro v1 w1 hown1 hg1 _; have hB1 := own_below hB0 hB0.size hr0 hg1)
    go_ret
    exact ⟨_, rfl, own_cast hown1 (by omega) (by simp), hB1⟩
set_option maxRecDepth 100000 in
theorem clone32 (A : Option Addr) (n c B : Nat) (xs : List Value) (w : World) (h : Reads w B 1 A n xs) (h1 : ∀ u ∈ xs, u.oneCell' = true) (hn : n ≤ 65536) :
    Calls Try.prog 32 #[.slice A n c] w fun e w' => ∃ v, e = .returned v ∧ w'.ownsRow w.heap.size 36 1 v n xs ∧ Below w.heap.size w w' := by
  cases A with
  | none =>
    have hn0 : n = 0 := by
      rcases Nat.eq_zero_or_pos n with h0 | h0
      · exact h0
      · obtain ⟨ad, e, _⟩ := h.2 h0
        cases e
    have hx0 : xs = [] := List.eq_nil_of_length_eq_zero (by rw [h.1, hn0])
    subst hn0
    subst hx0
    have hq := fun wx => Lib.run_eql_slice_nil (P := Try.prog) wx 26 36 none 0 c 0 0 Try.underlying26
    go_enter Try.func32, Try.ntmps32
    go_wp2
    go_ret
    exact ⟨_, rfl, World.ownsRow_nil _ _ _ _, Below.refl _ _⟩
  | some ad =>
    obtain ⟨i0, hi, hz0, hz1, hz2⟩ := info_parts info36
    have hr0 : (w.alloc (.cells #[] 36)).ownsRow w.heap.size 36 1 (.slice (some ⟨w.heap.size, 0, none⟩) 0 0) 0 [] := World.ownsRow_made w #[] 0 (Nat.le_refl _) (by unfold maxLen; omega) rfl
    have hB0 := (Below.refl w.heap.size w).alloc (Nat.le_refl _) (.cells #[] 36)
    have hrd : Reads (w.alloc (.cells #[] 36)) B 1 (some ad) n xs := ⟨h.1, fun hn => by
      obtain ⟨ad', e, hb, hc⟩ := h.2 hn
      exact ⟨ad', e, hb, fun j u hu => cell_later hB0 (hc j u hu)⟩⟩
    have hq := fun wx => Lib.run_eql_slice_nil (P := Try.prog) wx 26 36 (some ad) n c 0 0 Try.underlying26
    go_enter Try.func32, Try.ntmps32
    go_wp2_with (at_builtin; refine wpList_append_any _ rfl (.tmp 5) (.tmp 6) 26 rfl w.heap.size 36 i0 _ 1 4 Try.underlying26 hi hz0 hz1 hz2 rfl (by omega) (.slice (some ⟨w.heap.size, 0, none⟩) 0 0) 0 [] rfl hr0 B (some ad) n c xs rfl hrd h1 (by simp only [maxLen]; omega) (by omega) hB0.size ?_; intro v1 w1 hown1 hg1 _; have hB1 := own_below hB0 hB0.size hr0 hg1)
    go_ret
    exact ⟨_, rfl, own_cast hown1 (by omega) (by simp), hB1⟩
set_option maxRecDepth 100000 in
theorem clone34 (A : Option Addr) (n c B : Nat) (xs : List Value) (w : World) (h : Reads w B 3 A n xs) (h1 : ∀ u ∈ xs, u.oneCell' = true) (hn : n ≤ 65536) :
    Calls Try.prog 34 #[.slice A n c] w fun e w' => ∃ v, e = .returned v ∧ w'.ownsRow w.heap.size 38 3 v n xs ∧ Below w.heap.size w w' := by
  cases A with
  | none =>
    have hn0 : n = 0 := by
      rcases Nat.eq_zero_or_pos n with h0 | h0
      · exact h0
      · obtain ⟨ad, e, _⟩ := h.2 h0
        cases e
    have hx0 : xs = [] := List.eq_nil_of_length_eq_zero (by rw [h.1, hn0])
    subst hn0
    subst hx0
    have hq := fun wx => Lib.run_eql_slice_nil (P := Try.prog) wx 33 38 none 0 c 0 0 Try.underlying33
    go_enter Try.func34, Try.ntmps34
    go_wp2
    go_ret
    exact ⟨_, rfl, World.ownsRow_nil _ _ _ _, Below.refl _ _⟩
  | some ad =>
    obtain ⟨i0, hi, hz0, hz1, hz2⟩ := info_parts info38
    have hr0 : (w.alloc (.cells #[] 38)).ownsRow w.heap.size 38 3 (.slice (some ⟨w.heap.size, 0, none⟩) 0 0) 0 [] := World.ownsRow_made w #[] 0 (Nat.le_refl _) (by unfold maxLen; omega) rfl
    have hB0 := (Below.refl w.heap.size w).alloc (Nat.le_refl _) (.cells #[] 38)
    have hrd : Reads (w.alloc (.cells #[] 38)) B 3 (some ad) n xs := ⟨h.1, fun hn => by
      obtain ⟨ad', e, hb, hc⟩ := h.2 hn
      exact ⟨ad', e, hb, fun j u hu => cell_later hB0 (hc j u hu)⟩⟩
    have hq := fun wx => Lib.run_eql_slice_nil (P := Try.prog) wx 33 38 (some ad) n c 0 0 Try.underlying33
    go_enter Try.func34, Try.ntmps34
    go_wp2_with (at_builtin; refine wpList_append_any _ rfl (.tmp 5) (.tmp 6) 33 rfl w.heap.size 38 i0 _ 3 24 Try.underlying33 hi hz0 hz1 hz2 rfl (by omega) (.slice (some ⟨w.heap.size, 0, none⟩) 0 0) 0 [] rfl hr0 B (some ad) n c xs rfl hrd h1 (by simp only [maxLen]; omega) (by omega) hB0.size ?_; intro v1 w1 hown1 hg1 _; have hB1 := own_below hB0 hB0.size hr0 hg1)
    go_ret
    exact ⟨_, rfl, own_cast hown1 (by omega) (by simp), hB1⟩
set_option maxRecDepth 100000 in
theorem clone21 (A : Option Addr) (n c B : Nat) (xs : List Value) (w : World) (h : Reads w B 3 A n xs) (h1 : ∀ u ∈ xs, u.oneCell' = true) (hn : n ≤ 65536) :
    Calls Try.prog 21 #[.slice A n c] w fun e w' => ∃ v, e = .returned v ∧ w'.ownsRow w.heap.size 31 3 v n xs ∧ Below w.heap.size w w' := by
  cases A with
  | none =>
    have hn0 : n = 0 := by
      rcases Nat.eq_zero_or_pos n with h0 | h0
      · exact h0
      · obtain ⟨ad, e, _⟩ := h.2 h0
        cases e
    have hx0 : xs = [] := List.eq_nil_of_length_eq_zero (by rw [h.1, hn0])
    subst hn0
    subst hx0
    have hq := fun wx => Lib.run_eql_slice_nil (P := Try.prog) wx 23 31 none 0 c 0 0 Try.underlying23
    go_enter Try.func21, Try.ntmps21
    go_wp2
    go_ret
    exact ⟨_, rfl, World.ownsRow_nil _ _ _ _, Below.refl _ _⟩
  | some ad =>
    obtain ⟨i0, hi, hz0, hz1, hz2⟩ := info_parts info31
    have hr0 : (w.alloc (.cells #[] 31)).ownsRow w.heap.size 31 3 (.slice (some ⟨w.heap.size, 0, none⟩) 0 0) 0 [] := World.ownsRow_made w #[] 0 (Nat.le_refl _) (by unfold maxLen; omega) rfl
    have hB0 := (Below.refl w.heap.size w).alloc (Nat.le_refl _) (.cells #[] 31)
    have hrd : Reads (w.alloc (.cells #[] 31)) B 3 (some ad) n xs := ⟨h.1, fun hn => by
      obtain ⟨ad', e, hb, hc⟩ := h.2 hn
      exact ⟨ad', e, hb, fun j u hu => cell_later hB0 (hc j u hu)⟩⟩
    have hq := fun wx => Lib.run_eql_slice_nil (P := Try.prog) wx 23 31 (some ad) n c 0 0 Try.underlying23
    go_enter Try.func21, Try.ntmps21
    go_wp2_with (at_builtin; refine wpList_append_any _ rfl (.tmp 5) (.tmp 6) 23 rfl w.heap.size 31 i0 _ 3 24 Try.underlying23 hi hz0 hz1 hz2 rfl (by omega) (.slice (some ⟨w.heap.size, 0, none⟩) 0 0) 0 [] rfl hr0 B (some ad) n c xs rfl hrd h1 (by simp only [maxLen]; omega) (by omega) hB0.size ?_; intro v1 w1 hown1 hg1 _; have hB1 := own_below hB0 hB0.size hr0 hg1)
    go_ret
    exact ⟨_, rfl, own_cast hown1 (by omega) (by simp), hB1⟩
end Go.Proofs.Ythhchccjpgpibaa
