/- The calls on programs, in one form; a whole row read in a region that draws its order. -/
import Derived.Test.YtnldbplphgfpeaaTMb
import Derived.Test.YtnldbplphgfpeaaTAw
import Derived.Test.YtnldbplphgfpeaaTOq
import Derived.Test.YtnldbplphgfpeaaOpen
namespace Go.Proofs.Ytnldbplphgfpeaa
open Go Go.RowKit Go.Shelf
set_option linter.unusedVariables false
set_option linter.unusedSimpArgs false
set_option maxHeartbeats 4000000
theorem range_blk {W : World} {g t : Nat} {cs : Array Value} (h : Blk W g t cs) : W.rangeAt g 0 cs.toList := range_mid (pre := []) (post := []) h (by simp) rfl
theorem range_blk' {W : World} {g t : Nat} {cs : Array Value} (h : Blk W g t cs) {o : Nat} {pre vs post : List Value} (hc : cs.toList = pre ++ (vs ++ post)) (ho : pre.length = o) : W.rangeAt g o vs := range_mid h (by rw [← hc]) ho
/-- A load of cells that lie one behind the other, in a region that draws its order. -/
theorem load_range {P : Program} {S : World → Prop} {oi : Oper} {a : Act} (ty : TypeId) (x : Operand) (ho : oi.op = .load ty x) (b o : Nat) (hx : a.eval x = .pointer (some ⟨b, o, none⟩)) (cs : List Value) (d : TypeDesc) (hS : ∀ w, S w → w.rangeAt b o cs)
    (hu : P.underlying ty = some d) (hd : d.isRow = true) (hi : (P.info? ty).map (·.size) = some cs.length) : ∀ w, S w → (execOp a.eval oi).run P w = .ok (.value (.agg cs.toArray)) w := fun w hw => by
  unfold execOp
  simp only [ho, hx, Instr.loadAt, Instr.sureAddr, Sem.run_bind, Sem.run_pure, Result.andThen_ok, run_loadVar_mid w b o ty cs d (hS w hw) hu hd hi]
theorem load_row22 {S : World → Prop} {oi : Oper} {a : Act} (x : Operand) (ho : oi.op = .load 35 x) (b : Nat) (hx : a.eval x = .pointer (some ⟨b, 0, none⟩)) (cs : Array Value) (hc : cs.size = 22) {t : Nat} (hS : ∀ w, S w → Blk w b t cs) : ∀ w, S w → (execOp a.eval oi).run Try.prog w = .ok (.value (.agg cs)) w := by
  have := load_range (P := Try.prog) (S := S) (oi := oi) (a := a) 35 x ho b 0 hx cs.toList _ (fun w hw => range_blk (hS w hw)) Try.underlying35 rfl (by rw [Array.length_toList, hc]; kernel_rfl)
  simpa using this
/-- What the maker is handed. -/
structure Byt (W : World) (A : Option Addr) (n c : Nat) (bs : List Nat) : Prop where
  rd : Reads W W.heap.size 1 A n (bs.map fun (b : Nat) => Value.int .u8 (b : Int))
  lt : ∀ b ∈ bs, b < 256
  nc : n ≤ c
  cm : c ≤ 9223372036854775807
theorem Byt.below {W W' : World} {A : Option Addr} {n c : Nat} {bs : List Nat} (h : Byt W A n c bs) (hb : Below W.heap.size W W') : Byt W' A n c bs := ⟨(h.rd.below hb).more hb.size, h.lt, h.nc, h.cm⟩
/-- A program of one's own, its cells as one variable. -/
structure Prg (W : World) (base : Nat) (p : Pg Loc) (cs : Array Value) : Prop where
  cs : cs = (p.cells eT).toArray
  own : p.own W base
  nd : p.fp.Nodup
section
variable {W W' : World} {base base' : Nat} {p q : Pg Loc} {cs cq : Array Value} {fp : List Nat}
theorem Prg.size (h : Prg W base p cs) : cs.size = 22 := by rw [h.cs]; exact Pg.cells_len eT p
theorem Prg.one (h : Prg W base p cs) : cs.all (·.oneCell') = true := by
  rw [h.cs]
  refine all_oneCell_toArray fun u hu => ?_
  obtain ⟨bl, wd, li, ins, lg, gh, lv, va, la, ar, req, ln, inits, lpr, procs, lw, work, lr, recov, inv⟩ := p
  simp only [Pg.cells, List.mem_cons, List.mem_append] at hu
  rcases hu with rfl | rfl | rfl | rfl | rfl | rfl | hu | rfl | rfl | rfl | rfl | hu
  · rfl
  · rfl
  · rfl
  · rfl
  · rfl
  · rfl
  · exact req.cells_one eT u hu
  · rfl
  · rfl
  · rfl
  · rfl
  · exact inv.cells_one eT u hu
theorem Prg.new (h : Prg W base p cs) (hb : Below W.heap.size W W') : Prg W' base p cs := ⟨h.cs, (keep_pg _ p).new h.own hb, h.nd⟩
theorem Prg.only (h : Prg W base p cs) (ho : Only fp W W') (hd : ∀ b ∈ p.fp, b ∉ fp) : Prg W' base p cs := ⟨h.cs, (keep_pg _ p).only h.own ho hd, h.nd⟩
theorem Prg.base_le (h : Prg W base p cs) (hb : base' ≤ base) : Prg W base' p cs := ⟨h.cs, h.own.base_le hb, h.nd⟩
theorem made_c {A : Option Addr} {n c : Nat} {bs : List Nat} (h : Byt W A n c bs) : Calls Try.prog 9 #[.slice A n c] W fun x w' => ∃ (L : Pg Loc) (cs : Array Value), x = .returned (.agg cs) ∧ L.plain = madeM bs ∧ Prg w' W.heap.size L cs ∧ Below W.heap.size W w' :=
  (made_ok A n c bs W h.rd h.lt h.nc h.cm).mono fun x w' ⟨L, h1, h2, h3, h4, h5⟩ => ⟨L, _, h1, h2, ⟨rfl, h3, h4⟩, h5⟩
theorem copy_c (h : Prg W base p cs) (hs : p.sz ≤ 20000) : Calls Try.prog 10 #[.agg cs] W fun x w' => ∃ (L : Pg Loc) (cl : Array Value), x = .returned (.agg cl) ∧ L.plain = p.plain ∧ Prg w' W.heap.size L cl ∧ Below W.heap.size W w' := by
  rw [h.cs]
  exact (copy_yes p W h.own.ok hs).mono fun x w' ⟨L, h1, h2, h3, h4, h5⟩ => ⟨L, _, h1, h2, ⟨rfl, h3, h4⟩, h5⟩
theorem light_c (h : Prg W base p cs) (hs : p.sz ≤ 20000) : Calls Try.prog 11 #[.agg cs] W fun x w' => x = .returned (.bool true) ∧ Below W.heap.size W w' := by
  rw [h.cs]
  have := lightP_ok p W h.own.ok (slim_of hs)
  rw [decide_eq_true hs] at this
  exact this
theorem same_c (h : Prg W base p cs) (k : Prg W base' q cq) (hs : p.sz ≤ 20000) (hq : q.sz ≤ 20000) : Calls Try.prog 12 #[.agg cs, .agg cq] W fun x w' => x = .returned (.bool (p.same q)) ∧ Below W.heap.size W w' := by
  rw [h.cs, k.cs]
  exact sameP_yes p q W h.own.ok k.own.ok hs hq
theorem size_c (h : Prg W base p cs) (hs : p.sz ≤ 20000) : Calls Try.prog 13 #[.agg cs] W fun x w' => x = .returned (.int .i64 (p.sz : Nat)) ∧ Below W.heap.size W w' := by
  rw [h.cs]
  exact sizeP_ok p W h.own.ok (slim_of hs) p.sz (by rw [if_pos hs])
theorem overG_cells (p : Pg Loc) : (overG p).cells eT = p.cells eT := by
  simp only [overG, Pg.cells, ovX_cells, List.length_replicate, List.length_map]
theorem over_c (h : Prg W base p cs) : Calls Try.prog 16 #[.agg cs] W fun x w' => x = .returned (.tuple #[]) ∧ (overG p).own w' base ∧ Only p.fp W w' := by
  rw [h.cs]
  exact over_ok p base W h.own h.nd
end
theorem same_true {α β : Type} {p : Pg α} {q : Pg β} (h : p.plain = q.plain) : p.same q = true := Pg.same_iff.2 h
theorem same_comm {α β : Type} (p : Pg α) (q : Pg β) : p.same q = q.same p := by
  rw [Bool.eq_iff_iff, Pg.same_iff, Pg.same_iff]
  exact eq_comm
theorem szs_leaf : ∀ n, szs (List.replicate n leafX) = n
  | 0 => rfl
  | n + 1 => by rw [List.replicate_succ]; show leafX.sz + szs (List.replicate n leafX) = n + 1; rw [szs_leaf n]; simp [leafX, Ex.sz, szs]; omega
theorem szS_leaf : ∀ n, szS (List.replicate n leafS) = n
  | 0 => rfl
  | n + 1 => by rw [List.replicate_succ]; show leafS.sz + szS (List.replicate n leafS) = n + 1; rw [szS_leaf n]; simp [leafS, St.sz, szs, szS]; omega
theorem ovX_sz (x : Ex Loc) : (ovX x).sz ≤ x.sz := by
  obtain ⟨h, l, s⟩ := x
  simp only [ovX, Ex.sz, Ex.subs, szs_leaf]
  have := szs_len s
  omega
theorem szI_ov : ∀ l : List (In Loc), szI (l.map ovI) ≤ szI l
  | [] => Nat.le_refl _
  | x :: l => by
    have h1 := szI_ov l
    have h2 := ovX_sz x.val
    simp only [szI, List.map_cons, List.sum_cons, ovI] at h1 ⊢
    omega
theorem szPr_over : ∀ n, szPr (List.replicate n overP) = n
  | 0 => rfl
  | n + 1 => by
    have h1 := szPr_over n
    rw [List.replicate_succ]
    simp only [szPr, List.map_cons, List.sum_cons] at h1 ⊢
    rw [h1]
    simp [overP, szS]
    omega
/-- What Over leaves is not greater. -/
theorem overG_sz (p : Pg Loc) : (overG p).sz ≤ p.sz := by
  simp only [overG, Pg.sz, List.length_replicate, szS_leaf, szPr_over]
  have h1 := ovX_sz p.req
  have h2 := ovX_sz p.inv
  have h3 := szI_ov p.inits
  have h4 := szPr_len p.procs
  have h5 := szS_len p.work
  have h6 := szS_len p.recov
  omega
theorem overG_differs {p : Pg Loc} {q : Pg Loc} {l : List Nat} (hq : q.plain = madeM l) : (overG p).same q = false := by
  rw [Bool.eq_false_iff]
  intro h
  have h1 := Pg.same_iff.1 h
  rw [hq] at h1
  obtain ⟨_, ⟨w, hg⟩, _⟩ := madeM_sz l
  have h2 := congrArg Pg.gh h1
  rw [hg] at h2
  have h3 : List.replicate p.gh.length overD = [⟨sG, w, 0⟩, ⟨sH, 1, 0⟩] := h2
  have h4 : (⟨sG, w, 0⟩ : Dc) ∈ List.replicate p.gh.length overD := by rw [h3]; simp
  have h5 := (List.mem_replicate.1 h4).2
  have h6 := congrArg (fun d : Dc => d.nm.data.size) h5
  simp [overD, sG] at h6
theorem made_sz {L : Pg Loc} {l : List Nat} (h : L.plain = madeM l) : L.sz ≤ 10000 := by
  rw [← Pg.sz_plain, h]
  exact (madeM_sz l).1
end Go.Proofs.Ytnldbplphgfpeaa
