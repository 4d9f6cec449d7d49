/- Trails: literals. -/
import Derived.Test.YtkedepkhcbhcdaaTrlK
import Derived.Test.YtkedepkhcbhcdaaLift
namespace Go.Proofs.Ytkedepkhcbhcdaa
open Go Go.RowKit Go.Shelf
set_option linter.unusedVariables false
set_option linter.unusedSimpArgs false
set_option maxHeartbeats 4000000
attribute [local go_sem] Oper.semAt_some
theorem Ordr.new {W W' : World} {base d : Nat} {A : Option Addr} {c : Nat} {ls : List Int} (h : Ordr W base d A c ls) (hb : Below W.heap.size W W') : Ordr W' base d A c ls := by
  obtain ⟨vs, vt, hd⟩ := h.hd
  exact ⟨⟨vs, vt, hd.below hb hd.lt⟩, row_new h.ho hb, h.few⟩
/-- What the range of literals keeps. -/
def LIn (w : World) (base d : Nat) (A : Option Addr) (c : Nat) (ls : List Int) (bx Bf Bt : Nat) (fp : List Nat) (pre : List (Nat × Int)) (W : World) : Prop :=
  ∃ v, fp = bx :: v.ownBlock.toList ∧ Blk W bx 39 #[v] ∧ W.ownsRow (w.heap.size + 3) 27 1 v pre.length (litV (pre.map (·.2))) ∧ Blk W Bf 3 #[.int .i64 0] ∧ Blk W Bt 23 #[.pointer (some ⟨d, 0, none⟩)] ∧ Ordr W base d A c ls ∧ Below w.heap.size w W ∧ pre.map (·.2) = ls.take pre.length ∧ pre.length ≤ ls.length
theorem LIn.ck {B : Nat} {w W W' : World} {base d : Nat} {A : Option Addr} {c : Nat} {ls : List Int} {bx Bf Bt : Nat} {fp : List Nat} {pre : List (Nat × Int)} (h : LIn w base d A c ls bx Bf Bt fp pre W) (k : CellsKept B W W') (hB : w.heap.size ≤ B) : LIn w base d A c ls bx Bf Bt fp pre W' := by
  obtain ⟨v, h1, h2, h3, h4, h5, h6, h7, h8⟩ := h
  exact ⟨v, h1, h2.ck k, own_ck h3 k, h4.ck k, h5.ck k, h6.ck k, below_ck h7 (Nat.le_refl _) k hB, h8⟩
section
variable {P : Program} {ops : Array Oper} {Q : Exit → Act → World → Prop} {l n : Nat}
theorem list_lift (hQ : ∀ a w, ¬ Q .outgrown a w) : ∀ (L : List Oper) (a : Act) (w : World), (∀ o ∈ L, ∀ c, o.op ≠ .defer c) → wpList P ops Q L a w → wpListIn (Fence.wide.inRound l) n P ops Q L a w
  | [], _, _, _, h => h
  | o :: L, a, w, hL, h => by
    unfold wpList at h
    unfold wpListIn
    split
    · rename_i hw
      rw [if_pos hw] at h
      rcases h with h | ⟨_, a', w', h⟩
      · exact Oper.wpIn_mono (fun a w h' => list_lift hQ L a w (fun o ho => hL o (by simp [ho])) h') (oper_lift (hL o (by simp)) h)
      · exact absurd h (hQ a' w')
    · rename_i hw
      rw [if_neg hw] at h
      exact ⟨fun _ _ => trivial, list_lift hQ L _ w (fun o ho => hL o (by simp [ho])) h⟩

end
set_option maxRecDepth 100000 in
theorem literals_in (m : Nat) {w : World} {base d : Nat} {A : Option Addr} {c : Nat} {ls : List Int} (h : Ordr w base d A c ls) (hbase : base ≤ w.heap.size) :
    CallsIn Fence.wide m Try.prog 22 #[.pointer (some ⟨d, 0, none⟩)] w fun e w' => ∃ A' c', e = .returned (.slice A' ls.length c') ∧ w'.ownsRow w.heap.size 27 1 (.slice A' ls.length c') ls.length (litV ls) ∧ Below w.heap.size w w' := by
  refine callsIn_of_wp_marks Try.func22 rfl trivial ?_ rfl
  simp only [Try.ntmps22, List.size_toArray, List.length_cons, List.length_nil, Nat.reduceAdd, Nat.reduceSub, Array.replicate_succ, Array.replicate_zero, List.push_toArray, List.append_toArray, List.nil_append, List.cons_append]
  refine wpIn_wide.2 ?_
  go_wp2_with (go_at_call 28; refine (lits28 _ _ _).mono ?_; rintro e w' ⟨rfl, rfl⟩)
  rename_i hcont
  replace hcont := Lib.hid hcont
  have hA := (((Below.refl _ w).alloc (Nat.le_refl _) (.cells #[.slice none 0 0] 39)).alloc (by simp) (.cells #[.pointer (some ⟨d, 0, none⟩)] 23)).alloc (by simp; omega) (.cells #[.int .i64 0] 3)
  have g0 := ((Blk.new w 39 #[.slice none 0 0]).alloc (.cells #[.pointer (some ⟨d, 0, none⟩)] 23)).alloc (.cells #[.int .i64 0] 3)
  have g1 := (Blk.new (w.alloc (.cells #[.slice none 0 0] 39)) 23 #[.pointer (some ⟨d, 0, none⟩)]).alloc (.cells #[.int .i64 0] 3)
  have g2 := Blk.new ((w.alloc (.cells #[.slice none 0 0] 39)).alloc (.cells #[.pointer (some ⟨d, 0, none⟩)] 23)) 3 #[.int .i64 0]
  rw [World.size_alloc] at g1
  rw [World.size_alloc, World.size_alloc] at g2
  have hsz : w.heap.size + 3 = (((w.alloc (.cells #[.slice none 0 0] 39)).alloc (.cells #[.pointer (some ⟨d, 0, none⟩)] 23)).alloc (.cells #[.int .i64 0] 3)).heap.size := by simp
  have hO := h.new hA
  have hdl : d < w.heap.size := by obtain ⟨_, _, hd⟩ := h.hd; exact hd.lt
  have hfew := h.few
  generalize ((w.alloc (.cells #[.slice none 0 0] 39)).alloc (.cells #[.pointer (some ⟨d, 0, none⟩)] 23)).alloc (.cells #[.int .i64 0] 3) = W1 at hA g0 g1 g2 hsz hO ⊢
  have hI0 : LIn w base d A c ls w.heap.size (w.heap.size + 1 + 1) (w.heap.size + 1) [w.heap.size] [] W1 :=
    ⟨.slice none 0 0, rfl, g0, World.ownsRow_nil _ _ _ _, g2, g1, hO, hA, rfl, Nat.zero_le _⟩
  refine (wpIn_wide (n := m)).1 ?_
  refine wpIn_range rfl (enters_of Try.func40 (by kernel_rfl) rfl) (seq40 base d (w.heap.size + 1 + 1) (w.heap.size + 1) 0 (by omega)) (fun _ => rfl)
    (LIn w base d A c ls w.heap.size (w.heap.size + 1 + 1) (w.heap.size + 1)) (fun _ _ _ => False)
    (fun fp => ownFrom_of fun s W W' kk hI => hI.ck kk (by omega)) (fun _ => ownFrom_of fun _ _ _ _ h => h) (fun fp pre W hI => by obtain ⟨v, h1, h2, h3, h4, h5, h6, _⟩ := hI; exact ⟨h4, h5, A, c, ls, h6⟩) [w.heap.size] (by simp; omega) hI0
    (fun pre y a' W => a' = (fun y : Nat × Int => { tmps := #[Value.pointer (some { block := d, off := 0 }), undef, Value.slice none 0 0,
          Value.pointer (some { block := w.heap.size, off := 0 }), undef, Value.int IntKind.i64 y.2,
          Value.pointer (some { block := d, off := 0 }),
          Value.func (Fn.func 40) #[]
            #[Value.pointer (some { block := w.heap.size + 1 + 1, off := 0 }),
              Value.pointer (some { block := w.heap.size + 1, off := 0 })],
          Value.int IntKind.i64 y.1, Value.int IntKind.i64 y.2, undef, undef, undef, undef, undef], defers := [] } : Nat × Int → Act) y ∧ ls[pre.length]? = some y.2) (fun _ _ _ => ownFrom_of fun _ _ _ _ h => h) ?assign ?body ?done ?hE ?stop
  case assign =>
    intro l2 m2 fp pre y W2 K hI hX hK
    have hx : ls[pre.length]? = some y.2 := by
      obtain ⟨h1, A', c', ls', h2, h3⟩ := hX
      obtain ⟨v, q1, q2, q3, q4, q5, q6, _⟩ := hI
      rw [h2.uniq q6, h1] at h3
      simpa using h3
    have hfin := hK _ W2 (Only.refl [] _) hI ⟨rfl, hx⟩
    replace hfin := Lib.hid hfin
    clear hK hX
    simp only [enc2]
    gi_wp2
    exact hfin.out
  case body =>
    rintro l2 m2 fp pre ⟨y1, y2⟩ a' W2 ⟨v, rfl, hb, hrow, hI3, hI4, hI5, hB, hpre, hlen⟩ ⟨rfl, hx⟩
    apply wpIn_block
    apply wpIn_region_lit
    refine list_lift ?_ _ _ _ (by intro o ho; simp at ho; rcases ho with rfl | rfl | rfl | rfl | rfl <;> intro c hc <;> cases hc) ?_
    · intro a w hh
      exact hh
    have b0 := hb.cell 0
    simp only [List.getElem?_toArray, List.getElem?_cons_zero] at b0
    obtain ⟨i0, hi, hz0, hz1, hz2⟩ := info_parts info27
    dsimp only
    have hwl : w.heap.size + 1 + 1 < W2.heap.size := hI3.lt
    have hps : pre.length < ls.length := (List.getElem?_eq_some_iff.1 hx).1
    have hnv : some w.heap.size ≠ v.ownBlock := fun e => by have := (hrow.lt _ e.symm).1; omega
    go_wp2_with (at_builtin; refine wpList_append_any _ rfl _ _ 39 rfl (w.heap.size + 3) 27 i0 _ 1 8 Try.underlying39 hi hz0 hz1 hz2 rfl (by omega) v pre.length (litV (pre.map (·.2))) rfl (row_new hrow ((Below.refl _ _).alloc (Nat.le_refl _) _)) (W2.heap.size + 1) (some ⟨W2.heap.size, 0, none⟩) 1 1 [.int .i64 y2] rfl (lit_reads W2 27 _) (by simp [Value.oneCell']) (by simp only [maxLen]; omega) (by omega) (by simp; omega) ?_; intro v' w3 hown hgrow hat; obtain ⟨A5, c5, rfl⟩ := own_form hown; have hb3 := (hb.alloc (.cells #[.int .i64 y2] 27)).grown hgrow hnv; have b3 := hb3.cell 0; have fz3 := hb3.frozen 0; simp only [List.getElem?_toArray, List.getElem?_cons_zero] at b3)
    have hOn : Only (w.heap.size :: v.ownBlock.toList) W2 (w3.setCell ⟨w.heap.size, 0, none⟩ (.slice A5 (pre.length + 1) c5)) :=
      (((Only.refl _ W2).alloc _).grown hgrow (by intro k hk; exact .inl (by simp [hk]))).setCell (.inl (by simp)) _
    have hfar : ∀ k, k ∈ w.heap.size :: v.ownBlock.toList → k = w.heap.size ∨ w.heap.size + 3 ≤ k := by
      intro k hk
      rcases List.mem_cons.1 hk with rfl | hk
      · exact .inl rfl
      · exact .inr (hrow.lt k (by simpa using hk)).1
    have hBn := hB.trans (hOn.below hB.size (by intro k hk; have := hfar k hk; omega))
    have hx' : ls[pre.length]? = some y2 := hx
    refine ⟨hOn, w.heap.size :: (Value.slice A5 (pre.length + 1) c5).ownBlock.toList, ⟨.slice A5 (pre.length + 1) c5, rfl, hb3.set_ 0 _, ?_, hI3.only hOn (by intro hk; have := hfar _ hk; omega), hI4.only hOn (by intro hk; have := hfar _ hk; omega), h.new hBn, hBn, ?_, ?_⟩, ?_⟩
    · have q := own_only hown (Only.setCell (Only.refl [w.heap.size] w3) (p := ⟨w.heap.size, 0, none⟩) (.inl (by simp)) (.slice A5 (pre.length + 1) c5)) (by intro k hk hm; simp at hm; have := (hown.lt k hk).1; omega)
      simpa [litV] using q
    · simp only [List.map_append, List.map_cons, List.map_nil, List.length_append, List.length_cons, List.length_nil]
      rw [take_snoc hx', hpre]
    · simp; omega
    · intro k hk
      rcases List.mem_cons.1 hk with rfl | hk
      · exact .inl (by simp)
      · rcases hat with e | e
        · rw [e] at hk
          exact .inl (List.mem_cons_of_mem _ hk)
        · rw [e] at hk
          simp at hk
          exact .inr (by omega)
  case done =>
    rintro Dd fp xs W2 hDd ⟨A', c', ls', hE1, hE2⟩ ⟨v, rfl, hb, hrow, hI3, hI4, hI5, hB, hpre, hlen⟩ hDm
    rw [hE1.uniq hI5] at hE2
    have hl : xs.length = ls.length := by simp at hE2; omega
    have b0 := hb.cell 0
    simp only [List.getElem?_toArray, List.getElem?_cons_zero] at b0
    rw [hl, List.take_length] at hpre
    rw [hl, hpre] at hrow
    obtain ⟨Av, cv, rfl⟩ := own_form hrow
    refine hcont.out _ _ ?_
    clear hcont
    go_wp2
    have hk := CellsKept.putObj (B := w.heap.size) W2 (.deferred none) hDm rfl (by omega)
    exact leaves_one hDm ⟨.slice Av ls.length cv, by simp [results, Try.results22, go_sem], Av, cv, rfl, own_base (own_ck hrow hk) (by omega), below_ck hB (Nat.le_refl _) hk (Nat.le_refl _)⟩
  case hE =>
    rintro xs W l o o' h1 h2 h3 ⟨A', c', ls, h4, h5⟩
    exact ⟨A', c', ls, h4.ck (CellsKept.putObj (B := 0) W _ h2 h3 (Nat.zero_le _)), h5⟩
  case stop =>
    rintro Dd c' pre W2 hDd hI hDm
    exact hI.elim
theorem literals_ok {w : World} {base d : Nat} {fp : List Nat} {D : Trl} (h : Trail w base d fp D) (hbase : base ≤ w.heap.size) :
    Calls Try.prog 22 #[.pointer (some ⟨d, 0, none⟩)] w fun e w' => ∃ A' c', e = .returned (.slice A' (lits D).length c') ∧ w'.ownsRow w.heap.size 27 1 (.slice A' (lits D).length c') (lits D).length (litV (lits D)) ∧ Below w.heap.size w w' := by
  obtain ⟨A, c, h⟩ := h.ordr
  exact callsIn_wide.1 (literals_in 3 h hbase)
end Go.Proofs.Ytkedepkhcbhcdaa
