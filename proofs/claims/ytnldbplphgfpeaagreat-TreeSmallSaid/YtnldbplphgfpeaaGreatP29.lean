/- Lemmas for salvor/salvorlaw29.TreeSmall (part 29); no condition. -/
import Derived.Test.YtnldbplphgfpeaaGreatP28
import Derived.Test.YtnldbplphgfpeaaGreatP12
import Derived.Test.YtnldbplphgfpeaaGreatP09
import Derived.Test.YtnldbplphgfpeaaGreatP27
namespace Go.Proofs.YtnldbplphgfpeaaGreat
open Go Go.RowKit Go.Shelf
set_option linter.unusedVariables false
set_option linter.unusedSimpArgs false
set_option maxHeartbeats 4000000
def HX (n X : Nat) (cs : Array Value) (W : World) : Prop := ∃ e : Ex Loc, cs = (e.cells eT).toArray ∧ e.ok eT W ∧ n ≤ e.sz ∧ ∀ b ∈ e.blks, b ≠ X
def JX (X : Nat) (cs : Array Value) (W : World) : Prop := ∃ e : Ex Loc, cs = (e.cells eT).toArray ∧ e.ok eT W ∧ e.sz = 20000 ∧ ∀ b ∈ e.blks, b ≠ X
def HS (n : Nat) (A : Option Addr) (m c : Nat) (W : World) : Prop := ∃ ls : List (St Loc), ls.length = m ∧ Lst.ok eT W ⟨A, c⟩ ls ∧ Thin ls ∧ n ≤ szS ls
section
variable {W W' : World} {n m c X : Nat} {A : Option Addr} {cs : Array Value}
theorem HX.below (h : HX n X cs W) (hb : Below W.heap.size W W') : HX n X cs W' := by
 obtain ⟨e, h1, h2, h3⟩ := h
 exact ⟨e, h1, h2.below hb, h3⟩
theorem JX.below (h : JX X cs W) (hb : Below W.heap.size W W') : JX X cs W' := by
 obtain ⟨e, h1, h2, h3⟩ := h
 exact ⟨e, h1, h2.below hb, h3⟩
theorem ok_only {e : Ex Loc} (h : e.ok eT W) (ho : Only [X] W W') (hx : ∀ b ∈ e.blks, b ≠ X) : e.ok eT W' := h.keep (keeps_only ho) fun b hb hm => hx b hb (List.mem_singleton.1 hm)
theorem HX.only (h : HX n X cs W) (ho : Only [X] W W') : HX n X cs W' := by
 obtain ⟨e, h1, h2, h3, h4⟩ := h
 exact ⟨e, h1, ok_only h2 ho h4, h3, h4⟩
theorem JX.only (h : JX X cs W) (ho : Only [X] W W') : JX X cs W' := by
 obtain ⟨e, h1, h2, h3, h4⟩ := h
 exact ⟨e, h1, ok_only h2 ho h4, h3, h4⟩
theorem HS.below (h : HS n A m c W) (hb : Below W.heap.size W W') : HS n A m c W' := by
 obtain ⟨l, h1, h2, h3⟩ := h
 exact ⟨l, h1, h2.all (keeps_below hb), h3⟩
theorem HX.le {k : Nat} (h : HX n X cs W) (hk : k ≤ n) : HX k X cs W := by
 obtain ⟨e, h1, h2, h3, h4⟩ := h
 exact ⟨e, h1, h2, by omega, h4⟩
theorem HS.le {k : Nat} (h : HS n A m c W) (hk : k ≤ n) : HS k A m c W := by
 obtain ⟨e, h1, h2, h3, h4⟩ := h
 exact ⟨e, h1, h2, h3, by omega⟩
theorem HX.size (h : HX n X cs W) : cs.size = 6 := by
 obtain ⟨e, rfl, _⟩ := h
 exact cellsE_size eT e
theorem HX.one (h : HX n X cs W) : cs.all (·.oneCell') = true := by
 obtain ⟨e, rfl, _⟩ := h
 exact cellsE_one eT e
theorem JX.size (h : JX X cs W) : cs.size = 6 := by
 obtain ⟨e, rfl, _⟩ := h
 exact cellsE_size eT e
theorem row_blk {g t sz k : Nat} (h : Blk W g t cs) (hk : cs.size = k * sz) (hm : k ≤ 9223372036854775807) : RowIn W sz ⟨some ⟨g, 0, none⟩, k⟩ k cs.toList :=
 ⟨by rw [Array.length_toList, hk], Nat.le_refl _, hm, fun _ => ⟨_, rfl, fun j u hu => by
  rw [Addr.add]
  split
  ·next hj => subst hj; rw [h.cell 0]; simpa using hu
  ·rw [show (0 : Nat) + j = j from Nat.zero_add j, h.cell j]; simpa using hu⟩⟩
theorem hx_name (s : ByteArray) (X : Nat) (W : World) : HX 1 X #[.int .u8 2, .int .u8 0, .int .u32 0, .int .i64 0, .string s, .slice none 0 0] W :=
 ⟨.mk ⟨2, 0, 0, 0, s⟩ ⟨none, 0⟩ [], rfl, ⟨⟨rfl, Nat.le_refl _, by decide, fun h => absurd h (by decide)⟩, trivial⟩, by simp [Ex.sz], fun b hb => by cases hb⟩
theorem HX.two {g : Nat} {k o : Int} (h : HX n X cs W) (hg : g ≠ X) (hb : Blk W g 30 (cs ++ cs)) : HX (n + n) X #[.int .u8 k, .int .u8 o, .int .u32 0, .int .i64 0, .string ⟨#[]⟩, .slice (some ⟨g, 0, none⟩) 2 2] W := by
 obtain ⟨e, rfl, h2, h3, h4⟩ := h
 have h6 := cellsE_size eT e
 refine ⟨.mk ⟨k, o, 0, 0, ⟨#[]⟩⟩ ⟨some ⟨g, 0, none⟩, 2⟩ [e, e], rfl, ⟨?_, h2, h2, trivial⟩, by simp only [Ex.sz, szs]; omega, fun b hb => ?_⟩
 rotate_left
 ·simp only [Ex.blks, blkss, List.append_nil, List.mem_append] at hb
  rcases hb with hb | hb | hb
  ·have : b = g := by simpa [Loc.blk] using hb
   rw [this]; exact hg
  ·exact h4 b hb
  ·exact h4 b hb
 have := row_blk (sz := 6) (k := 2) hb (by rw [Array.size_append, h6]) (by decide)
 simpa [cellsL] using this
theorem HX.stmt {g1 g2 : Nat} {k : Int} {s : ByteArray} (h : HX n X cs W) (h1 : Blk W g1 30 cs) (h2 : Blk W g2 40 #[.int .u8 k, .string s, .slice (some ⟨g1, 0, none⟩) 1 1, .int .i64 0, .slice none 0 0, .slice none 0 0]) : HS n (some ⟨g2, 0, none⟩) 1 1 W := by
 obtain ⟨e, rfl, h3, h4, -⟩ := h
 have h6 := cellsE_size eT e
 have hnil : RowIn W 6 (⟨none, 0⟩ : Loc) 0 [] := ⟨rfl, Nat.le_refl _, by decide, fun h => absurd h (by decide)⟩
 refine ⟨[.mk ⟨k, s, 0⟩ ⟨some ⟨g1, 0, none⟩, 1⟩ ⟨none, 0⟩ ⟨none, 0⟩ [e] [] []], rfl, ⟨row_blk (sz := 6) (k := 1) h2 rfl (by decide), ⟨⟨?_, ⟨h3, trivial⟩, hnil, trivial, hnil, trivial⟩, trivial⟩⟩, fun x hx => ?_, ?_⟩
 ·have := row_blk (sz := 6) (k := 1) h1 (by rw [h6]) (by decide)
  simpa [cellsL] using this
 ·simp only [nodesS, St.nodes, List.append_nil, List.mem_singleton] at hx
  subst hx
  simp [St.ex]
 ·simp only [szS, St.sz, szs]; omega
theorem hs_one {g : Nat} {k : Int} {s : ByteArray} (h : Blk W g 40 #[.int .u8 k, .string s, .slice none 0 0, .int .i64 0, .slice none 0 0, .slice none 0 0]) : HS 1 (some ⟨g, 0, none⟩) 1 1 W := by
 have hnil : RowIn W 6 (⟨none, 0⟩ : Loc) 0 [] := ⟨rfl, Nat.le_refl _, by decide, fun h => absurd h (by decide)⟩
 refine ⟨[.mk ⟨k, s, 0⟩ ⟨none, 0⟩ ⟨none, 0⟩ ⟨none, 0⟩ [] [] []], rfl, ⟨row_blk (sz := 6) (k := 1) h rfl (by decide), ⟨⟨hnil, trivial, hnil, trivial, hnil, trivial⟩, trivial⟩⟩, fun x hx => ?_, ?_⟩
 ·simp only [nodesS, St.nodes, List.append_nil, List.mem_singleton] at hx
  subst hx
  simp [St.ex]
 ·simp [szS, St.sz, szs]
theorem HS.two {g : Nat} {k : Int} (h : HS n A m c W) (hb : Blk W g 40 #[.int .u8 k, .string ⟨#[]⟩, .slice none 0 0, .int .i64 0, .slice A m c, .slice A m c]) : HS (n + n) (some ⟨g, 0, none⟩) 1 1 W := by
 obtain ⟨ls, rfl, h2, h3, h4⟩ := h
 have hnil : RowIn W 6 (⟨none, 0⟩ : Loc) 0 [] := ⟨rfl, Nat.le_refl _, by decide, fun h => absurd h (by decide)⟩
 refine ⟨[.mk ⟨k, ⟨#[]⟩, 0⟩ ⟨none, 0⟩ ⟨A, c⟩ ⟨A, c⟩ [] ls ls], rfl, ⟨row_blk (sz := 6) (k := 1) hb rfl (by decide), ⟨⟨hnil, trivial, h2.1, h2.2, h2.1, h2.2⟩, trivial⟩⟩, fun x hx => ?_, ?_⟩
 ·simp only [nodesS, St.nodes, List.append_nil, List.mem_cons, List.mem_append] at hx
  rcases hx with rfl | hx | hx
  ·simp [St.ex]
  ·exact h3 x hx
  ·exact h3 x hx
 ·simp only [szS, St.sz, szs]; omega
theorem hx_size (h : HX 20001 X cs W) : Calls Tryz.prog 9 #[.agg cs] W fun r W' => r = .returned (.int .i64 0) ∧ Below W.heap.size W W' := by
 obtain ⟨e, rfl, h2, h3, -⟩ := h
 exact sizeE e W h2 0 (by rw [if_neg (by omega)])
theorem hx_same (h : HX 20001 X cs W) : Calls Tryz.prog 10 #[.agg cs, .agg cs] W fun r W' => r = .returned (.bool false) ∧ Below W.heap.size W W' := by
 obtain ⟨e, rfl, h2, h3, -⟩ := h
 exact sameE_no e W h2 h3
theorem hx_names (h : HX 20001 X cs W) : Calls Tryz.prog 11 #[.agg cs] W fun r W' => r = .returned (.slice none 0 0) ∧ Below W.heap.size W W' := by
 obtain ⟨e, rfl, h2, h3, -⟩ := h
 exact names_no e W h2 h3
theorem hx_copy (h : HX 20001 X cs W) : Calls Tryz.prog 12 #[.agg cs] W fun r W' => r = .returned (.agg #[.int .u8 0, .int .u8 0, .int .u32 0, .int .i64 0, .string ⟨#[]⟩, .slice none 0 0]) ∧ Below W.heap.size W W' := by
 obtain ⟨e, rfl, h2, h3, -⟩ := h
 exact copyE_no e W h2 h3
theorem hx_ren (f t : ByteArray) (h : HX 20001 X cs W) : Calls Tryz.prog 13 #[.agg cs, .string f, .string t] W fun r W' => r = .returned (.agg #[.int .u8 0, .int .u8 0, .int .u32 0, .int .i64 0, .string ⟨#[]⟩, .slice none 0 0]) ∧ Below W.heap.size W W' := by
 obtain ⟨e, rfl, h2, h3, -⟩ := h
 exact renE_no e f t W h2 h3
theorem hs_size (h : HS 20001 A m c W) : Calls Tryz.prog 14 #[.slice A m c] W fun r W' => r = .returned (.int .i64 0) ∧ Below W.heap.size W W' := by
 obtain ⟨l, rfl, h2, h3, h4⟩ := h
 exact sizeS l ⟨A, c⟩ h3 W h2 0 (by rw [if_neg (by omega)])
theorem hs_same (h : HS 20001 A m c W) : Calls Tryz.prog 15 #[.slice A m c, .slice A m c] W fun r W' => r = .returned (.bool false) ∧ Below W.heap.size W W' := by
 obtain ⟨l, rfl, h2, h3, h4⟩ := h
 exact sameS_no l ⟨A, c⟩ W h3 h2 h4
theorem hs_copy (h : HS 20001 A m c W) : Calls Tryz.prog 16 #[.slice A m c] W fun r W' => r = .returned (.slice none 0 0) ∧ Below W.heap.size W W' := by
 obtain ⟨l, rfl, h2, h3, h4⟩ := h
 exact copyS_no l ⟨A, c⟩ W h3 h2 h4
theorem hs_ren (f t : ByteArray) (h : HS 20001 A m c W) : Calls Tryz.prog 17 #[.slice A m c, .string f, .string t] W fun r W' => r = .returned (.slice none 0 0) ∧ Below W.heap.size W W' := by
 obtain ⟨l, rfl, h2, h3, h4⟩ := h
 exact renS_no l ⟨A, c⟩ f t W h3 h2 h4
theorem hs_calls (h : HS 20001 A m c W) : Calls Tryz.prog 18 #[.slice A m c] W fun r W' => r = .returned (.slice none 0 0) ∧ Below W.heap.size W W' := by
 obtain ⟨l, rfl, h2, h3, h4⟩ := h
 exact calls_no l ⟨A, c⟩ W h3 h2 h4
theorem hs_depth (h : HS 20001 A m c W) : Calls Tryz.prog 19 #[.slice A m c] W fun r W' => r = .returned (.int .i64 0) ∧ Below W.heap.size W W' := by
 obtain ⟨l, rfl, h2, h3, h4⟩ := h
 exact depth_no l ⟨A, c⟩ W h3 h2 h4
def pgV (li : Loc) (ins : List Dc) (lv : Loc) (va : List Dc) (lw : Loc) (ls : List (St Loc)) : Pg Loc :=
 ⟨0, 0, li, ins, ⟨none, 0⟩, [], lv, va, ⟨none, 0⟩, [], .mk ⟨0, 0, 0, 0, ⟨#[]⟩⟩ ⟨none, 0⟩ [], ⟨none, 0⟩, [], ⟨none, 0⟩, [], lw, ls, ⟨none, 0⟩, [], .mk ⟨0, 0, 0, 0, ⟨#[]⟩⟩ ⟨none, 0⟩ []⟩
theorem pgV_ok {li lv lw : Loc} {ins va : List Dc} {ls : List (St Loc)} (h1 : RowIn W 3 li ins.length (cellsD ins)) (h2 : RowIn W 3 lv va.length (cellsD va)) (h3 : Lst.ok eT W lw ls) : (pgV li ins lv va lw ls).ok eT W := by
 have h0 : ∀ sz, RowIn W sz (⟨none, 0⟩ : Loc) 0 [] := fun sz => ⟨by simp, Nat.le_refl _, by decide, fun h => absurd h (by decide)⟩
 exact ⟨h1, h0 3, h2, h0 3, ⟨h0 6, trivial⟩, ⟨h0 7, fun x hx => by cases hx⟩, ⟨h0 3, fun x hx => by cases hx⟩, h3, ⟨h0 6, trivial⟩, ⟨h0 6, trivial⟩⟩
theorem pgV_slim {li lv lw : Loc} {ins va : List Dc} {ls : List (St Loc)} (h1 : ins.length ≤ 20000) (h2 : va.length ≤ 20000) (h3 : Thin ls) : (pgV li ins lv va lw ls).Slim :=
 ⟨h1, Nat.zero_le _, h2, Nat.zero_le _, Nat.zero_le _, Nat.zero_le _, (fun x hx => by cases hx), h3, (fun x hx => by cases hx)⟩
theorem pgV_sz (li lv lw : Loc) (ins va : List Dc) (ls : List (St Loc)) : (pgV li ins lv va lw ls).sz = ins.length + va.length + 3 + szS ls := by
 simp only [pgV, Pg.sz, Ex.sz, szs, szI, szPr, szS, List.length_nil, List.map_nil, List.sum_nil]
 omega
def pC (u v s : Value) : Array Value := #[.int .i64 0, .int .i64 0, u, .slice none 0 0, v, .slice none 0 0, .int .u8 0, .int .u8 0, .int .u32 0, .int .i64 0, .string ⟨#[]⟩, .slice none 0 0, .slice none 0 0, .slice none 0 0, s, .slice none 0 0, .int .u8 0, .int .u8 0, .int .u32 0, .int .i64 0, .string ⟨#[]⟩, .slice none 0 0]
def HP (cs : Array Value) (W : World) : Prop := ∃ (A : Option Addr) (m c : Nat), cs = pC (.slice none 0 0) (.slice none 0 0) (.slice A m c) ∧ HS 20001 A m c W
theorem HP.prog (h : HP cs W) : ∃ p : Pg Loc, .agg cs = aggP p ∧ p.ok eT W ∧ p.Slim ∧ 20000 < p.sz := by
 obtain ⟨A, m, c, rfl, ls, rfl, h2, h3, h4⟩ := h
 have h0 : RowIn W 3 (⟨none, 0⟩ : Loc) 0 [] := ⟨rfl, Nat.le_refl _, by decide, fun h => absurd h (by decide)⟩
 exact ⟨pgV ⟨none, 0⟩ [] ⟨none, 0⟩ [] ⟨A, c⟩ ls, rfl, pgV_ok h0 h0 h2, pgV_slim (Nat.zero_le _) (Nat.zero_le _) h3, by rw [pgV_sz]; simp only [List.length_nil]; omega⟩
theorem HP.below (h : HP cs W) (hb : Below W.heap.size W W') : HP cs W' := by
 obtain ⟨A, m, c, h1, h2⟩ := h
 exact ⟨A, m, c, h1, h2.below hb⟩
theorem HP.size (h : HP cs W) : cs.size = 22 := by
 obtain ⟨A, m, c, rfl, _⟩ := h
 rfl
theorem hp_light (h : HP cs W) : Calls Tryz.prog 20 #[.agg cs] W fun r W' => r = .returned (.bool false) ∧ Below W.heap.size W W' := by
 obtain ⟨p, e, h1, h2, h3⟩ := h.prog
 rw [e]
 have := lightP_ok p W h1 h2
 rw [decide_eq_false (by omega)] at this
 exact this
theorem hp_size (h : HP cs W) : Calls Tryz.prog 21 #[.agg cs] W fun r W' => r = .returned (.int .i64 0) ∧ Below W.heap.size W W' := by
 obtain ⟨p, e, h1, h2, h3⟩ := h.prog
 rw [e]
 exact sizeP_ok p W h1 h2 0 (by rw [if_neg (by omega)])
theorem hp_same (h : HP cs W) : Calls Tryz.prog 22 #[.agg cs, .agg cs] W fun r W' => r = .returned (.bool false) ∧ Below W.heap.size W W' := by
 obtain ⟨p, e, h1, h2, h3⟩ := h.prog
 rw [e]
 exact sameP_no p p W h1 h2 h3
theorem hp_copy (h : HP cs W) : Calls Tryz.prog 23 #[.agg cs] W fun r W' => r = .returned (.agg zP) ∧ Below W.heap.size W W' := by
 obtain ⟨p, e, h1, h2, h3⟩ := h.prog
 rw [e]
 exact copyP_no p W h1 h2 h3
theorem made_succ (z : Array Value) (n : Nat) (hz : 0 < z.size) : madeCells z ((n + 1) * z.size) = madeCells z (n * z.size) ++ z := by
 apply Array.ext
 ·simp [size_madeCells, Nat.succ_mul]
 ·intro i h1 h2
  rw [Array.getElem_append]
  simp only [madeCells, Array.getElem_map, Array.getElem_range]
  split
  ·rfl
  ·next h =>
   simp only [Array.size_map, Array.size_range] at h
   have h3 : i < (n + 1) * z.size := by simpa [madeCells] using h1
   have h4 : i % z.size = i - n * z.size := by
    rw [Nat.succ_mul] at h3
    have h5 : i = (i - n * z.size) + z.size * n := by rw [Nat.mul_comm z.size n]; omega
    conv => lhs; rw [h5]
    rw [Nat.add_mul_mod_self_left, Nat.mod_eq_of_lt (by omega)]
   rw [h4, getElem!_pos z _ (by rw [Nat.succ_mul] at h3; omega)]
   simp
theorem made_list {α : Type} (z : Array Value) (hz : 0 < z.size) (f : α → List Value) (x : α) (hf : f x = z.toList) : ∀ n, (madeCells z (n * z.size)).toList = (List.replicate n x).flatMap f
 | 0 => by simp [madeCells]
 | n + 1 => by rw [made_succ z n hz, Array.toList_append, made_list z hz f x hf n, List.replicate_succ', List.flatMap_append, List.flatMap_singleton, hf]
def zD : Dc := ⟨⟨#[]⟩, 0, 0⟩
def zX : Ex Loc := .mk ⟨0, 0, 0, 0, ⟨#[]⟩⟩ ⟨none, 0⟩ []
theorem zX_ok (W : World) : zX.ok eT W := ⟨⟨rfl, Nat.le_refl _, by decide, fun h => absurd h (by decide)⟩, trivial⟩
theorem szs_rep (x : Ex Loc) (hx : x.sz = 1) : ∀ n, szs (List.replicate n x) = n
 | 0 => rfl
 | n + 1 => by rw [List.replicate_succ]; simp only [szs, hx, szs_rep x hx n]; omega
theorem hx_wide (g n : Nat) (k : Int) (hn : n ≤ 30000) (h : Blk W g 30 cs) (hc : cs.toList = (List.replicate n zX).flatMap (Ex.cells eT)) :
  ∃ e : Ex Loc, #[.int .u8 k, .int .u8 0, .int .u32 0, .int .i64 0, .string ⟨#[]⟩, .slice (some ⟨g, 0, none⟩) n n] = (e.cells eT).toArray ∧ e.ok eT W ∧ e.sz = 1 + n ∧ ∀ b ∈ e.blks, b = g := by
 have hs : cs.size = n * 6 := by
  rw [← Array.length_toList, hc]
  have := cellsL_len eT (List.replicate n zX)
  rw [List.length_replicate] at this
  exact this
 refine ⟨.mk ⟨k, 0, 0, 0, ⟨#[]⟩⟩ ⟨some ⟨g, 0, none⟩, n⟩ (List.replicate n zX), ?_, ⟨?_, oks_iff.2 fun x hx => ?_⟩, ?_, fun b hb => ?_⟩
 ·simp [Ex.cells, eT]
 ·have := row_blk (sz := 6) h hs (by omega)
  rw [hc] at this
  rw [List.length_replicate]
  exact this
 ·rw [List.eq_of_mem_replicate hx]
  exact zX_ok W
 ·simp only [Ex.sz]
  rw [szs_rep zX (by rfl)]
 ·simp only [Ex.blks, List.mem_append] at hb
  rcases hb with hb | hb
  ·unfold Loc.blk at hb
   split at hb
   ·cases hb
   ·simpa using hb
  ·obtain ⟨x, hx, hm⟩ := blkss_iff.1 hb
   rw [List.eq_of_mem_replicate hx] at hm
   cases hm
theorem hx_wide' (g n X : Nat) (k : Int) (hn : n ≤ 30000) (hX : g ≠ X) (h : Blk W g 30 cs) (hc : cs.toList = (List.replicate n zX).flatMap (Ex.cells eT)) : HX (1 + n) X #[.int .u8 k, .int .u8 0, .int .u32 0, .int .i64 0, .string ⟨#[]⟩, .slice (some ⟨g, 0, none⟩) n n] W := by
 obtain ⟨e, h1, h2, h3, h4⟩ := hx_wide g n k hn h hc
 exact ⟨e, h1, h2, by omega, fun b hb => by rw [h4 b hb]; exact hX⟩
theorem jx_wide (g X : Nat) (k : Int) (hX : g ≠ X) (h : Blk W g 30 cs) (hc : cs.toList = (List.replicate 19999 zX).flatMap (Ex.cells eT)) : JX X #[.int .u8 k, .int .u8 0, .int .u32 0, .int .i64 0, .string ⟨#[]⟩, .slice (some ⟨g, 0, none⟩) 19999 19999] W := by
 obtain ⟨e, h1, h2, h3, h4⟩ := hx_wide g 19999 k (by omega) h hc
 exact ⟨e, h1, h2, by omega, fun b hb => by rw [h4 b hb]; exact hX⟩
theorem jx_size (h : JX X cs W) : Calls Tryz.prog 9 #[.agg cs] W fun r W' => r = .returned (.int .i64 20000) ∧ Below W.heap.size W W' := by
 obtain ⟨e, rfl, h2, h3, -⟩ := h
 exact sizeE e W h2 20000 (by rw [if_pos (by omega), h3])
theorem make_zero {α : Type} (t e : TypeId) (z : Value) (n size bytes : Nat) (hi : (Tryz.prog.info? e).map (fun i => (i.zero, i.size, i.bytes)) = some (some z, size, bytes)) (ht : Tryz.prog.underlying t = some (.slice e)) (hb : bytes * n ≤ 281474976710656) (hn : n ≤ 9223372036854775807)
  (f : α → List Value) (x : α) (hf : f x = z.cells.toList) (hs : z.cells.size = size) (h0 : 0 < size) : ∃ Z : Array Value, Z.toList = (List.replicate n x).flatMap f ∧ ∀ w, Sem.run Tryz.prog (Instr.makeSlice t (.int .i64 (n : Int)) (.int .i64 (n : Int))) w = .ok (.slice (some ⟨w.heap.size, 0, none⟩) n n) (w.alloc (.cells Z e)) := by
 obtain ⟨i, h1, h2, h3, h4⟩ := info_parts hi
 refine ⟨madeCells z.cells (n * size), ?_, fun w => ?_⟩
 ·rw [← hs]
  exact made_list z.cells (by omega) f x hf n
 ·have := run_make_rowN t e i z ht h1 h2 .i64 .i64 n n (Nat.le_refl _) (by rw [h4]; exact hb) hn w
  rw [h3] at this
  exact this
theorem bin_two (h6 : cs.size = 6) (h1 : cs.all (·.oneCell') = true) (op : Int) (w : World) : Calls Tryz.prog 8 #[.int .u8 op, .agg cs, .agg cs] w fun r w' => ∃ g, r = .returned (.agg #[.int .u8 6, .int .u8 op, .int .u32 0, .int .i64 0, .string ⟨#[]⟩, .slice (some ⟨g, 0, none⟩) 2 2]) ∧ Blk w' g 30 (cs ++ cs) ∧ w.heap.size ≤ g ∧ Below w.heap.size w w' := by
 obtain ⟨l⟩ := cs
 match l, h6, h1 with
 | [x0, x1, x2, x3, x4, x5], _, h1 => exact bin_ok op x0 x1 x2 x3 x4 x5 x0 x1 x2 x3 x4 x5 h1 h1 w
end
end Go.Proofs.YtnldbplphgfpeaaGreat
namespace Go.Proofs.YtnldbplphgfpeaaGreat
open Go Go.RowKit Go.Shelf
set_option linter.unusedVariables false
set_option linter.unusedSimpArgs false
set_option maxHeartbeats 4000000
theorem wpList_load_at {P : Program} {ops : Array Oper} {rest : List Oper} {o : Oper} {a : Act} {w : World} {Q : Exit → Act → World → Prop} (ty : TypeId) (x : Operand) (ho : o.op = .load ty x) (hw : Region.wanted o (yielded ops a.tmps) = true)
  (p : Addr) (hx : a.eval x = .pointer (some p)) (cs : List Value) (d : TypeDesc) (hc : CellsAt w p cs)
  (hu : P.underlying ty = some d) (hd : d.isRow = true) (hi : (P.info? ty).map (·.size) = some cs.length)
  (h : wpList P ops Q rest (a.put o.dst (.agg cs.toArray)) w) : wpList P ops Q (o :: rest) a w := by
 have hl : (loadCells p cs.length).run P w = .ok cs.toArray w := run_loadCells_list (P := P) w p cs hc
 have hv : (loadVar ty p).run P w = .ok (.agg cs.toArray) w := by
  cases hq : P.info? ty with
  | none => simp [hq] at hi
  | some i =>
   have hs : i.size = cs.length := by simpa [hq] using hi
   have hagg : (isAgg ty).run P w = .ok true w := by
    unfold isAgg
    rw [Sem.run_bind, run_underlying hu w]
    cases d <;> simp_all
   simp [loadVar, Sem.run_bind, hagg, sizeOf, typeInfo, hq, hs, hl]
 unfold wpList
 rw [if_pos hw]
 refine .inl ?_
 unfold Oper.wp execOp
 simp only [ho, hx, Instr.loadAt, Instr.sureAddr, Sem.run_bind, Sem.run_pure, Result.andThen_ok, hv]
 exact h
structure Pgs (A : Option Addr) (c : Nat) (ps : List (Pg Loc)) (W : World) : Prop where
 len : ps.length = 28
 row : RowIn W 22 ⟨A, c⟩ 28 (ps.flatMap (Pg.cells eT))
 ok : ∀ p ∈ ps, p.ok eT W ∧ p.rng ∧ p.wt ≤ 500
section
variable {A : Option Addr} {c : Nat} {ps : List (Pg Loc)} {W W' : World}
theorem Pgs.below (h : Pgs A c ps W) (hb : Below W.heap.size W W') : Pgs A c ps W' := ⟨h.len, h.row.all (keeps_below hb), fun p hp => ⟨(h.ok p hp).1.below hb, (h.ok p hp).2⟩⟩
theorem Pgs.of {base : Nat} {v : Loc} (hl : ps.length = 28) (h : RowB (fun W p => GoodP base p W) Pg.fp (Pg.cells eT) base 35 22 v ps W) : Pgs v.A v.c ps W :=
 ⟨hl, by have := own_row h.row; rw [hl] at this; exact this, fun p hp => ⟨(h.own p hp).1.ok, (h.own p hp).2⟩⟩
theorem Pgs.at (h : Pgs A c ps W) {k : Nat} (hk : k < 28) : ∃ (ad : Addr) (p : Pg Loc), A = some ad ∧ CellsAt W (ad.add (k * 22)) (p.cells eT) ∧ p.ok eT W ∧ p.rng ∧ p.wt ≤ 500 := by
 have hx : ps[k]? = some (ps[k]'(by have := h.len; omega)) := List.getElem?_eq_getElem _
 have hr := h.row
 rw [← h.len] at hr
 obtain ⟨ad, h1, _, _, h2⟩ := RowIn.at (fun p => by have := Pg.cells_len eT p; simpa using this) hr hx
 exact ⟨ad, _, h1, h2, h.ok _ (List.mem_of_getElem? hx)⟩
theorem cells_sub {w : World} {ad : Addr} {cs pre mid post : List Value} (h : CellsAt w ad cs) (hc : cs = pre ++ (mid ++ post)) {n : Nat} (hn : pre.length = n) : CellsAt w (ad.add n) mid := fun j u hu => by
 rw [add_of_add]
 refine h _ u ?_
 rw [hc, List.getElem?_append_right (by omega), hn, Nat.add_sub_cancel_left, List.getElem?_append_left (List.getElem?_eq_some_iff.1 hu).1]
 exact hu
theorem cells_blk {g t : Nat} {cs : List Value} (h : Blk W g t cs.toArray) : CellsAt W ⟨g, 0, none⟩ cs := fun j u hu => by
 rw [Addr.add]
 split
 ·next hj => subst hj; rw [h.cell 0]; simpa using hu
 ·rw [show (0 : Nat) + j = j from Nat.zero_add j, h.cell j]; simpa using hu
structure PgAt (g : Nat) (p : Pg Loc) (W : World) : Prop where
 req : CellsAt W ⟨g, 6, none⟩ (p.req.cells eT)
 inv : CellsAt W ⟨g, 16, none⟩ (p.inv.cells eT)
 work : W.cell? ⟨g, 14, none⟩ = some (.slice p.lw.A p.work.length p.lw.c)
 recov : W.cell? ⟨g, 15, none⟩ = some (.slice p.lr.A p.recov.length p.lr.c)
theorem PgAt.of {g t : Nat} {p : Pg Loc} (h : Blk W g t (p.cells eT).toArray) : PgAt g p W := by
 have hc := cells_blk h
 have hq : (p.req.cells eT).length = 6 := p.req.cells_len eT
 refine ⟨cells_sub (pre := [_, _, _, _, _, _]) hc rfl rfl, ?_, ?_, ?_⟩
 ·exact cells_sub (pre := .int .i64 p.bl :: .int .i64 p.wd :: .slice p.li.A p.ins.length p.li.c :: .slice p.lg.A p.gh.length p.lg.c :: .slice p.lv.A p.va.length p.lv.c :: .slice p.la.A p.ar.length p.la.c :: (p.req.cells eT ++ [.slice p.ln.A p.inits.length p.ln.c, .slice p.lpr.A p.procs.length p.lpr.c, .slice p.lw.A p.work.length p.lw.c, .slice p.lr.A p.recov.length p.lr.c])) (post := []) (n := 16) hc (by simp [Pg.cells]) (by simp [hq])
 ·have := h.cell 14
  rw [this]
  simp [Pg.cells, hq, List.getElem?_append_right]
 ·have := h.cell 15
  rw [this]
  simp [Pg.cells, hq, List.getElem?_append_right]
theorem parts_req {p q : Pg Loc} (f t : ByteArray) (ht : t.size ≤ 1) (h1 : p.ok eT W) (r1 : p.rng) (w1 : p.wt ≤ 500) (h2 : q.ok eT W) (r2 : q.rng) (w2 : q.wt ≤ 500) :
  Calls Tryz.prog 6 #[.agg (p.req.cells eT).toArray, .agg (q.req.cells eT).toArray, .slice p.lw.A p.work.length p.lw.c, .slice q.lw.A q.work.length q.lw.c, .string f, .string t] W fun r w' => r = .returned (.bool true) ∧ Below W.heap.size W w' := by
 unfold Pg.wt at w1 w2
 exact parts_ok p.req q.req p.work q.work p.lw q.lw f t W h1.req h2.req h1.work h2.work r1.req r2.req r1.work r2.work (by omega) (by omega) (by omega) (by omega) ht
theorem parts_inv {p q : Pg Loc} (f t : ByteArray) (ht : t.size ≤ 1) (h1 : p.ok eT W) (r1 : p.rng) (w1 : p.wt ≤ 500) (h2 : q.ok eT W) (r2 : q.rng) (w2 : q.wt ≤ 500) :
  Calls Tryz.prog 6 #[.agg (p.inv.cells eT).toArray, .agg (q.inv.cells eT).toArray, .slice p.lr.A p.recov.length p.lr.c, .slice q.lr.A q.recov.length q.lr.c, .string f, .string t] W fun r w' => r = .returned (.bool true) ∧ Below W.heap.size W w' := by
 unfold Pg.wt at w1 w2
 exact parts_ok p.inv q.inv p.recov q.recov p.lr q.lr f t W h1.inv h2.inv h1.recov h2.recov r1.inv r2.inv r1.recov r2.recov (by omega) (by omega) (by omega) (by omega) ht
theorem tells_any {p q : Pg Loc} (h1 : p.ok eT W) (r1 : p.rng) (w1 : p.wt ≤ 500) (h2 : q.ok eT W) (r2 : q.rng) (w2 : q.wt ≤ 500) :
  Calls Tryz.prog 5 #[.agg (p.cells eT).toArray, .agg (q.cells eT).toArray] W fun r w' => r = .returned (.bool true) ∧ Below W.heap.size W w' :=
 tells_ok p q W h1 h2 (Pg.fit_wt (Nat.le_trans w1 (by decide))) (Pg.fit_wt (Nat.le_trans w2 (by decide))) r1 r2
def kE (k : Int) (g : Nat) : Ex Loc := .mk ⟨k, 0, 0, 0, ⟨#[120]⟩⟩ ⟨some ⟨g, 0, none⟩, 2⟩ [.mk ⟨2, 0, 0, 0, ⟨#[120]⟩⟩ ⟨none, 0⟩ [], .mk ⟨k, 0, 0, 0, ⟨#[121]⟩⟩ ⟨none, 0⟩ []]
def kS0 (k : Int) (g1 g2 g3 : Nat) : St Loc := .mk ⟨k, ⟨#[120]⟩, 0⟩ ⟨some ⟨g2, 0, none⟩, 1⟩ ⟨some ⟨g3, 0, none⟩, 1⟩ ⟨none, 0⟩ [kE k g1] [.mk ⟨k, ⟨#[121]⟩, 0⟩ ⟨none, 0⟩ ⟨none, 0⟩ ⟨none, 0⟩ [] [] []] []
def kS1 (k : Int) (g1 g4 g6 : Nat) : St Loc := .mk ⟨k, ⟨#[120]⟩, 0⟩ ⟨none, 0⟩ ⟨none, 0⟩ ⟨some ⟨g4, 0, none⟩, 1⟩ [] [] [.mk ⟨k, ⟨#[120]⟩, 0⟩ ⟨some ⟨g6, 0, none⟩, 2⟩ ⟨none, 0⟩ ⟨none, 0⟩ [kE k g1, kE k g1] [] []]
structure KD (k : Int) (g1 g2 g3 g4 g5 g6 : Nat) (W : World) : Prop where
 b1 : Blk W g1 30 #[.int .u8 2, .int .u8 0, .int .u32 0, .int .i64 0, .string ⟨#[120]⟩, .slice none 0 0, .int .u8 k, .int .u8 0, .int .u32 0, .int .i64 0, .string ⟨#[121]⟩, .slice none 0 0]
 b2 : Blk W g2 30 #[.int .u8 k, .int .u8 0, .int .u32 0, .int .i64 0, .string ⟨#[120]⟩, .slice (some ⟨g1, 0, none⟩) 2 2]
 b3 : Blk W g3 40 #[.int .u8 k, .string ⟨#[121]⟩, .slice none 0 0, .int .i64 0, .slice none 0 0, .slice none 0 0]
 b6 : Blk W g6 30 #[.int .u8 k, .int .u8 0, .int .u32 0, .int .i64 0, .string ⟨#[120]⟩, .slice (some ⟨g1, 0, none⟩) 2 2, .int .u8 k, .int .u8 0, .int .u32 0, .int .i64 0, .string ⟨#[120]⟩, .slice (some ⟨g1, 0, none⟩) 2 2]
 b4 : Blk W g4 40 #[.int .u8 k, .string ⟨#[120]⟩, .slice (some ⟨g6, 0, none⟩) 2 2, .int .i64 0, .slice none 0 0, .slice none 0 0]
 b5 : Blk W g5 40 #[.int .u8 k, .string ⟨#[120]⟩, .slice (some ⟨g2, 0, none⟩) 1 1, .int .i64 0, .slice (some ⟨g3, 0, none⟩) 1 1, .slice none 0 0, .int .u8 k, .string ⟨#[120]⟩, .slice none 0 0, .int .i64 0, .slice none 0 0, .slice (some ⟨g4, 0, none⟩) 1 1]
section
variable {k : Int} {g1 g2 g3 g4 g5 g6 : Nat}
theorem KD.below (h : KD k g1 g2 g3 g4 g5 g6 W) (hb : Below W.heap.size W W') : KD k g1 g2 g3 g4 g5 g6 W' := ⟨h.b1.below hb h.b1.lt, h.b2.below hb h.b2.lt, h.b3.below hb h.b3.lt, h.b6.below hb h.b6.lt, h.b4.below hb h.b4.lt, h.b5.below hb h.b5.lt⟩
theorem nilR (sz : Nat) (W : World) : RowIn W sz (⟨none, 0⟩ : Loc) 0 [] := ⟨by simp, Nat.le_refl _, by decide, fun h => absurd h (by decide)⟩
theorem xN_ok (s : ByteArray) (k : Int) (W : World) : (Ex.mk ⟨k, 0, 0, 0, s⟩ ⟨none, 0⟩ [] : Ex Loc).ok eT W := ⟨nilR 6 W, trivial⟩
theorem KD.e (h : KD k g1 g2 g3 g4 g5 g6 W) : (kE k g1).ok eT W := ⟨row_blk (sz := 6) (k := 2) h.b1 rfl (by decide), xN_ok _ _ W, xN_ok _ _ W, trivial⟩
theorem KD.s0 (h : KD k g1 g2 g3 g4 g5 g6 W) : (kS0 k g1 g2 g3).ok eT W :=
 ⟨row_blk (sz := 6) (k := 1) h.b2 rfl (by decide), ⟨h.e, trivial⟩, row_blk (sz := 6) (k := 1) h.b3 rfl (by decide), ⟨⟨nilR 6 W, trivial, nilR 6 W, trivial, nilR 6 W, trivial⟩, trivial⟩, nilR 6 W, trivial⟩
theorem KD.s1 (h : KD k g1 g2 g3 g4 g5 g6 W) : (kS1 k g1 g4 g6).ok eT W :=
 ⟨nilR 6 W, trivial, nilR 6 W, trivial, row_blk (sz := 6) (k := 1) h.b4 rfl (by decide), ⟨⟨row_blk (sz := 6) (k := 2) h.b6 rfl (by decide), ⟨h.e, h.e, trivial⟩, nilR 6 W, trivial, nilR 6 W, trivial⟩, trivial⟩⟩
theorem KD.l (h : KD k g1 g2 g3 g4 g5 g6 W) : Lst.ok eT W ⟨some ⟨g5, 0, none⟩, 2⟩ [kS0 k g1 g2 g3, kS1 k g1 g4 g6] := ⟨row_blk (sz := 6) (k := 2) h.b5 rfl (by decide), h.s0, h.s1, trivial⟩
theorem KD.l1 (h : KD k g1 g2 g3 g4 g5 g6 W) : Lst.ok eT W ⟨some ⟨g5, 0, none⟩, 2⟩ [kS0 k g1 g2 g3] := by
 refine ⟨⟨rfl, Nat.le_of_ble_eq_true rfl, Nat.le_of_ble_eq_true rfl, fun _ => ⟨_, rfl, fun j u hu => ?_⟩⟩, h.s0, trivial⟩
 have h2 := row_blk (sz := 6) (k := 2) h.b5 rfl (by decide)
 obtain ⟨ad, h3, h4⟩ := h2.2.2.2 (by decide)
 cases h3
 refine h4 j u ?_
 have hj := (List.getElem?_eq_some_iff.1 hu).1
 rw [show (#[.int .u8 k, .string ⟨#[120]⟩, .slice (some ⟨g2, 0, none⟩) 1 1, .int .i64 0, .slice (some ⟨g3, 0, none⟩) 1 1, .slice none 0 0, .int .u8 k, .string ⟨#[120]⟩, .slice none 0 0, .int .i64 0, .slice none 0 0, .slice (some ⟨g4, 0, none⟩) 1 1] : Array Value).toList = cellsS eT [kS0 k g1 g2 g3] ++ cellsS eT [kS1 k g1 g4 g6] from rfl, List.getElem?_append_left hj]
 exact hu
theorem kE_rng (hk : 0 ≤ k ∧ k < 10) : (kE k g1).all Hd.rng := by
 have h0 : ∀ s, (Hd.mk k 0 0 0 s).rng := fun s => by unfold Hd.rng; dsimp only; omega
 exact ⟨h0 _, ⟨⟨by decide, by decide, by decide⟩, trivial⟩, ⟨h0 _, trivial⟩, trivial⟩
theorem kS0_rng (hk : 0 ≤ k ∧ k < 10) : (kS0 k g1 g2 g3).all Hd.rng SHd.rng := by
 have h0 : ∀ s, (SHd.mk k s 0).rng := fun s => ⟨hk.1, by show k < 256; omega⟩
 exact ⟨h0 _, ⟨kE_rng hk, trivial⟩, ⟨⟨h0 _, trivial, trivial, trivial⟩, trivial⟩, trivial⟩
theorem kS1_rng (hk : 0 ≤ k ∧ k < 10) : (kS1 k g1 g4 g6).all Hd.rng SHd.rng := by
 have h0 : ∀ s, (SHd.mk k s 0).rng := fun s => ⟨hk.1, by show k < 256; omega⟩
 exact ⟨h0 _, trivial, trivial, ⟨⟨h0 _, ⟨kE_rng hk, kE_rng hk, trivial⟩, trivial, trivial⟩, trivial⟩⟩
theorem kind1 (hk : 0 ≤ k ∧ k < 10) (h : KD k g1 g2 g3 g4 g5 g6 W) : Calls Tryz.prog 6 #[.agg #[.int .u8 k, .int .u8 0, .int .u32 0, .int .i64 0, .string ⟨#[120]⟩, .slice (some ⟨g1, 0, none⟩) 2 2], .agg #[.int .u8 k, .int .u8 0, .int .u32 0, .int .i64 0, .string ⟨#[120]⟩, .slice (some ⟨g1, 0, none⟩) 2 2],
  .slice (some ⟨g5, 0, none⟩) 2 2, .slice (some ⟨g5, 0, none⟩) 2 2, .string ⟨#[120]⟩, .string ⟨#[122]⟩] W fun r w' => r = .returned (.bool true) ∧ Below W.heap.size W w' :=
 parts_ok (kE k g1) (kE k g1) [kS0 k g1 g2 g3, kS1 k g1 g4 g6] [kS0 k g1 g2 g3, kS1 k g1 g4 g6] ⟨some ⟨g5, 0, none⟩, 2⟩ ⟨some ⟨g5, 0, none⟩, 2⟩ ⟨#[120]⟩ ⟨#[122]⟩ W h.e h.e h.l h.l (kE_rng hk) (kE_rng hk) ⟨kS0_rng hk, kS1_rng hk, trivial⟩ ⟨kS0_rng hk, kS1_rng hk, trivial⟩ (Nat.le_of_ble_eq_true rfl) (Nat.le_of_ble_eq_true rfl) (Nat.le_of_ble_eq_true rfl) (Nat.le_of_ble_eq_true rfl) (Nat.le_of_ble_eq_true rfl)
theorem kind2 (hk : 0 ≤ k ∧ k < 10) (h : KD k g1 g2 g3 g4 g5 g6 W) : Calls Tryz.prog 6 #[.agg #[.int .u8 k, .int .u8 0, .int .u32 0, .int .i64 0, .string ⟨#[120]⟩, .slice (some ⟨g1, 0, none⟩) 2 2], .agg #[.int .u8 2, .int .u8 0, .int .u32 0, .int .i64 0, .string ⟨#[120]⟩, .slice none 0 0],
  .slice (some ⟨g5, 0, none⟩) 2 2, .slice (some ⟨g5, 0, none⟩) 1 2, .string ⟨#[121]⟩, .string ⟨#[]⟩] W fun r w' => r = .returned (.bool true) ∧ Below W.heap.size W w' :=
 parts_ok (kE k g1) (.mk ⟨2, 0, 0, 0, ⟨#[120]⟩⟩ ⟨none, 0⟩ []) [kS0 k g1 g2 g3, kS1 k g1 g4 g6] [kS0 k g1 g2 g3] ⟨some ⟨g5, 0, none⟩, 2⟩ ⟨some ⟨g5, 0, none⟩, 2⟩ ⟨#[121]⟩ ⟨#[]⟩ W h.e (xN_ok _ _ W) h.l h.l1 (kE_rng hk) ⟨⟨by decide, by decide, by decide⟩, trivial⟩ ⟨kS0_rng hk, kS1_rng hk, trivial⟩ ⟨kS0_rng hk, trivial⟩ (Nat.le_of_ble_eq_true rfl) (Nat.le_of_ble_eq_true rfl) (Nat.le_of_ble_eq_true rfl) (Nat.le_of_ble_eq_true rfl) (Nat.le_of_ble_eq_true rfl)
theorem kind3 (hk : 0 ≤ k ∧ k < 10) (h : KD k g1 g2 g3 g4 g5 g6 W) : Calls Tryz.prog 6 #[.agg #[.int .u8 k, .int .u8 0, .int .u32 0, .int .i64 0, .string ⟨#[120]⟩, .slice (some ⟨g1, 0, none⟩) 2 2], .agg #[.int .u8 k, .int .u8 0, .int .u32 0, .int .i64 0, .string ⟨#[120]⟩, .slice (some ⟨g1, 0, none⟩) 2 2],
  .slice none 0 0, .slice none 0 0, .string ⟨#[]⟩, .string ⟨#[120]⟩] W fun r w' => r = .returned (.bool true) ∧ Below W.heap.size W w' :=
 parts_ok (kE k g1) (kE k g1) [] [] ⟨none, 0⟩ ⟨none, 0⟩ ⟨#[]⟩ ⟨#[120]⟩ W h.e h.e ⟨nilR 6 W, trivial⟩ ⟨nilR 6 W, trivial⟩ (kE_rng hk) (kE_rng hk) trivial trivial (Nat.le_of_ble_eq_true rfl) (Nat.le_of_ble_eq_true rfl) (Nat.le_of_ble_eq_true rfl) (Nat.le_of_ble_eq_true rfl) (Nat.le_of_ble_eq_true rfl)
end
end
end Go.Proofs.YtnldbplphgfpeaaGreat
