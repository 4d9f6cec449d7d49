/- Lemmas for salvor/salvorlaw29.TreeSmall (part 0); no condition. -/
import Derived.Below
import Derived.ChangeSame
import Derived.ProofKit
import Derived.OpenShut
import Derived.WalkKit
import Derived.WalkLawsBesides
import Derived.WalkSpells
import Derived.Handy
import Derived.Lib.Hide
import Derived.BigQuiet
import Derived.Laws.OwnMore
import Derived.Laws.MakeOwn
import Derived.Laws.Entries
import Derived.Laws.Rows
import Derived.ArgAppend
import Derived.Deep.AppendLies
import Derived.Deep.Draws
import Derived.Deep.OwnRows
import Derived.Deep.QuietTactic
import Derived.Maps.AppendAt
import Derived.RegionTactic
import Derived.OwnWalk
import Derived.Tactics
import Derived.RangeFuncNested
import Derived.RangeFuncBound
import Derived.RangeFuncCalls
import Derived.RangeFuncLeaves
import Derived.RangeFuncBox
import Derived.Shelf.Abstract
import Derived.Shelf.RegionOpen
import Derived.OwnWalkIn
import Derived.TacticsInMore
import Derived.LoopNIn
import Derived.LoopIn
import Derived.StillTailTactics
import Derived.OrdersIn
namespace Go.Proofs.YtnldbplphgfpeaaGreat
open Go.RowKit Go.WideShapes Go.ChangeShapes
section
variable {H : Type} {enc : TypeId × Value → H} {P : Program}
theorem post_of_below {f : Func} {s : ChangeSpec} {apart fresh handsOn again : Bool} {W W' : World} {args : Array Value} {v : Value} {ds gs : List (DataW H)} {before pa pv : List MemPlace}
  (hW : DataW.Whole enc P f.params.toList s.vars apart W args.toList ds gs before)
  (hres : ∀ (b : Nat) (sp : Nat → Bool) (hd : Bool), DataW.TrodAll enc P W' b sp hd f.resultTypes.toList (v.resultList f.resultTypes.size) (s.fn H (ds ++ gs)).results [])
  (hargs : ∀ sp : Nat → Bool, (∀ p ∈ before, sp p.block = true) → DataW.TrodAll enc P W' 0 sp true f.params.toList args.toList (s.fn H (ds ++ gs)).args pa)
  (hvars : ∀ sp : Nat → Bool, (∀ p ∈ before, sp p.block = true) → DataW.TrodVars enc P W' sp s.vars (s.fn H (ds ++ gs)).vars pv)
  (hps : before = pa ++ pv) (hb : Below W.heap.size W W')
  (hok : ∀ (j : Nat) (t : TypeId) (r : Value), f.resultTypes[j]? = some t → (v.resultList f.resultTypes.size)[j]? = some r → Value.okWide P W' .any 0 t r) :
  s.post enc P f apart fresh handsOn again W args v W' := by
 have hlt : ∀ p ∈ before, p.block < W.heap.size := fun p hp => hW.lt p hp
 have hold : ∀ p ∈ before, (fun b => decide (b < W.heap.size)) p.block = true := fun p hp => decide_eq_true (hlt p hp)
 refine ⟨ds, gs, before, [], pa, pv, hW, hres _ _ _, hargs _ hold, hvars _ hold, World.keptBut_mono (fun p hp => ⟨hp, ?_⟩) (hb.frame (· ∈ before)), fun _ => ?_⟩
 ·rw [hps, List.mem_append] at hp
  exact Or.inr hp
 ·obtain ⟨_, _, _, _, _, hz, hn⟩ := hW
  refine ⟨hok, _, _, ([] ++ pa) ++ pv, ⟨[] ++ pa, pv, trodAll_append (hargs _ (fun _ _ => rfl)) (hres _ _ _), hvars _ (fun _ _ => rfl), rfl, ?_, ?_⟩, ?_⟩
  ·intro b off hp
   have hin : MemPlace.cell b off ∈ before := by rw [hps]; simpa using hp
   rw [hb.frozen (hlt _ hin)]
   exact hz b off hin
  ·intro ha
   have := hn ha
   rw [hps] at this
   simpa using this
  ·intro p hp _
   rw [hps]
   simpa using hp
end
end Go.Proofs.YtnldbplphgfpeaaGreat
namespace Go.Proofs.YtnldbplphgfpeaaGreat
open Go.RowKit Go.WideShapes Go.ChangeShapes
section
variable {H : Type} {enc : TypeId × Value → H} {P : Program}
end
end Go.Proofs.YtnldbplphgfpeaaGreat
namespace Go.Proofs.YtnldbplphgfpeaaGreat
open Go Go.RowKit
section
variable {P : Program} {ops : Array Oper} {rest : List Oper} {o : Oper} {a : Act} {w : World} {Q : Exit → Act → World → Prop}
end
end Go.Proofs.YtnldbplphgfpeaaGreat
namespace Go.Proofs.YtnldbplphgfpeaaGreat
open Go Go.RowKit
set_option linter.unusedVariables false
set_option linter.unusedSimpArgs false
theorem block_of_add (a : Addr) (n : Nat) : (a.add n).block = a.block := by unfold Addr.add; split <;> rfl
theorem add_of_add (a : Addr) (i j : Nat) : (a.add i).add j = a.add (i + j) := by
 unfold Addr.add
 by_cases hi : i = 0 <;> by_cases hj : j = 0 <;> simp [hi, hj, Nat.add_assoc]
def Reads (w : World) (B size : Nat) (A : Option Addr) (n : Nat) (xs : List Value) : Prop :=
 xs.length = n * size ∧ (0 < n → ∃ ad, A = some ad ∧ ad.block < B ∧ ∀ j u, xs[j]? = some u → w.cell? (ad.add j) = some u)
section
variable {w w' : World} {B B' size n : Nat} {A : Option Addr} {xs : List Value}
theorem Reads.none_ : Reads w B size A 0 [] := ⟨by simp, fun h => absurd h (by omega)⟩
theorem Reads.keep (h : Reads w B size A n xs) (hk : ∀ p : Addr, p.block < B → w'.cell? p = w.cell? p) : Reads w' B size A n xs :=
 ⟨h.1, fun hn => by
  obtain ⟨ad, e, hb, hc⟩ := h.2 hn
  exact ⟨ad, e, hb, fun j u hu => (hk _ (by rw [block_of_add]; exact hb)).trans (hc j u hu)⟩⟩
theorem Reads.more (h : Reads w B size A n xs) (hB : B ≤ B') : Reads w B' size A n xs :=
 ⟨h.1, fun hn => by
  obtain ⟨ad, e, hb, hc⟩ := h.2 hn
  exact ⟨ad, e, by omega, hc⟩⟩
theorem Reads.below (h : Reads w B size A n xs) (hb : Below B w w') : Reads w' B size A n xs := h.keep fun _ hp => hb.cell hp
theorem Reads.of_own {base : Nat} {e : TypeId} {c : Nat} (h : w.ownsRow base e size (.slice A n c) n xs) : Reads w w.heap.size size A n xs := by
 refine ⟨h.1, fun hn => ?_⟩
 obtain ⟨g, cap, hv, _, hlt⟩ := h.form hn
 have hA : A = some ⟨g, 0, none⟩ := by injection hv
 subst hA
 exact ⟨_, rfl, hlt, h.cells (g := g) rfl⟩
end
def Blk (w : World) (g : Nat) (t : TypeId) (cs : Array Value) : Prop := w.heap[g]? = some (.cells cs t (0, 0))
section
variable {w w' : World} {g : Nat} {t : TypeId} {cs : Array Value}
theorem Blk.lt (h : Blk w g t cs) : g < w.heap.size := by
 rcases Nat.lt_or_ge g w.heap.size with hlt | hge
 ·exact hlt
 ·unfold Blk at h; rw [Array.getElem?_eq_none hge] at h; cases h
theorem Blk.cell (h : Blk w g t cs) (i : Nat) : w.cell? ⟨g, i, none⟩ = cs[i]? := cell_of_row w g i cs t (0, 0) h
theorem Blk.frozen (h : Blk w g t cs) (i : Nat) : w.frozen? ⟨g, i, none⟩ = false := by
 unfold Blk at h
 simp [World.frozen?, h]
theorem Blk.new (w : World) (t : TypeId) (cs : Array Value) : Blk (w.alloc (.cells cs t)) w.heap.size t cs := heap_alloc_new w _
theorem Blk.drew (h : Blk w g t cs) : Blk w.drew g t cs := h
theorem Blk.alloc (h : Blk w g t cs) (o : Obj) : Blk (w.alloc o) g t cs := (Below.heap_alloc w o g h.lt).trans h
theorem Blk.set_ (h : Blk w g t cs) (i : Nat) (u : Value) : Blk (w.setCell ⟨g, i, none⟩ u) g t (cs.setIfInBounds i u) := by
 unfold Blk at h ⊢
 simp [World.setCell, Array.getElem?_modify, h]
theorem Blk.far (h : Blk w g t cs) {p : Addr} (hp : g ≠ p.block) (u : Value) : Blk (w.setCell p u) g t cs := (Below.heap_setCell w p u g hp).trans h
theorem Blk.below {B : Nat} (h : Blk w g t cs) (hb : Below B w w') (hg : g < B) : Blk w' g t cs := (hb.block g hg).trans h
theorem Blk.grown {row : Option Nat} (h : Blk w g t cs) (hb : w.grownBy w' row) (hg : some g ≠ row) : Blk w' g t cs := (hb.block g h.lt hg).trans h
theorem Blk.ne_ {g' : Nat} {t' : TypeId} {cs' : Array Value} (h : Blk w g t cs) (h' : Blk w g' t' cs') (hne : t ≠ t') : g ≠ g' := by
 rintro rfl
 unfold Blk at h h'
 rw [h] at h'
 injection h' with h'
 injection h' with _ ht
 exact hne ht
theorem own_blk_ne {base : Nat} {e : TypeId} {size n : Nat} {v : Value} {xs : List Value} (h : w.ownsRow base e size v n xs) (hg : Blk w g t cs) (hne : e ≠ t) : v.ownBlock ≠ some g := by
 rcases h.2 with ⟨rfl, _⟩ | ⟨g', cap, cur, rfl, _, hh, _⟩
 ·simp [Value.ownBlock]
 ·intro he
  have : g' = g := by simpa [Value.ownBlock] using he
  subst this
  exact Blk.ne_ (t := e) hh hg hne rfl
end
section
variable {P : Program} (w : World)
theorem run_append_of_nil (base : Nat) (t ty e : TypeId) (i : TypeInfo) (size : Nat) (ht : P.underlying t = some (.slice e)) (hi : P.info? e = some i)
  (v : Value) (n : Nat) (xs : List Value) (hown : w.ownsRow base e size v n xs) (c : Nat) : (Builtin.append_ #[t, t] ty #[v, .slice none 0 c]).run P w = .ok v w := by
 rcases hown.2 with ⟨rfl, rfl⟩ | ⟨g, cap, cur, rfl, _, _, hnc, _⟩
 ·simp [Builtin.append_, run_underlying ht, sizeOf, typeInfo, hi, Builtin.lenOf, Builtin.firstCells]
 ·simp [Builtin.append_, run_underlying ht, sizeOf, typeInfo, hi, Builtin.lenOf, Builtin.firstCells, hnc, storeCells]
theorem run_append_any (base : Nat) (t ty e : TypeId) (i : TypeInfo) (z : Value) (size bytes : Nat) (ht : P.underlying t = some (.slice e)) (hi : P.info? e = some i) (hz : i.zero = some z)
  (hsize : i.size = size) (hby : i.bytes = bytes) (hzs : z.cells.size = size) (hsz : 0 < size)
  (v : Value) (n : Nat) (xs : List Value) (hown : w.ownsRow base e size v n xs)
  (B : Nat) (A : Option Addr) (m c : Nat) (news : List Value) (hr : Reads w B size A m news) (h1 : ∀ u ∈ news, u.oneCell' = true)
  (h63 : n + m ≤ maxLen) (hbytes : (n + m) * bytes ≤ 140737488355328) (hbase : base ≤ w.heap.size) :
  ∃ v' w', (Builtin.append_ #[t, t] ty #[v, .slice A m c]).run P w = .ok v' w' ∧ w'.ownsRow base e size v' (n + m) (xs ++ news) ∧ w.grownBy w' v.ownBlock ∧
   (v'.ownBlock = v.ownBlock ∨ v'.ownBlock = some w.heap.size) := by
 rcases A with _ | ad
 ·have hm : m = 0 := by
   rcases Nat.eq_zero_or_pos m with h0 | h0
   ·exact h0
   ·obtain ⟨ad, h, _⟩ := hr.2 h0
    cases h
  subst hm
  have hn : news = [] := List.eq_nil_of_length_eq_zero (by simpa using hr.1)
  subst hn
  exact ⟨v, w, run_append_of_nil w base t ty e i size ht hi v n xs hown c, by simpa using hown, World.grownBy.refl w _, .inl rfl⟩
 ·have hcells : ∀ j u, news[j]? = some u → w.cell? (ad.add j) = some u := by
   intro j u hu
   rcases Nat.eq_zero_or_pos m with h0 | h0
   ·subst h0
    have hn : news = [] := List.eq_nil_of_length_eq_zero (by simpa using hr.1)
    subst hn
    simp at hu
   ·obtain ⟨ad', h, _, hc⟩ := hr.2 h0
    injection h with h
    subst h
    exact hc j u hu
  obtain ⟨v', w', hrun, h2, h3, _, h5⟩ := run_append_own_at (P := P) w base t ty e i z size bytes ht hi hz hsize hby hzs hsz v n xs hown ad m c news hr.1 hcells h1 h63 hbytes hbase
  exact ⟨v', w', hrun, h2, h3, h5⟩
theorem wp_append_any {o : Oper} {a : Act} {K : Act → World → Prop} {Q : Exit → Act → World → Prop} (s x : Operand) (t : TypeId)
  (ho : o.op = .call { callee := .builtin .append, args := #[s, x], argTypes := #[t, t] })
  (base : Nat) (e : TypeId) (i : TypeInfo) (z : Value) (size bytes : Nat) (ht : P.underlying t = some (.slice e)) (hi : P.info? e = some i) (hz : i.zero = some z)
  (hsize : i.size = size) (hby : i.bytes = bytes) (hzs : z.cells.size = size) (hsz : 0 < size)
  (v : Value) (n : Nat) (xs : List Value) (hs : a.eval s = v) (hown : w.ownsRow base e size v n xs)
  (B : Nat) (A : Option Addr) (m c : Nat) (news : List Value) (hx : a.eval x = .slice A m c) (hr : Reads w B size A m news) (h1 : ∀ u ∈ news, u.oneCell' = true)
  (h63 : n + m ≤ maxLen) (hbytes : (n + m) * bytes ≤ 140737488355328) (hbase : base ≤ w.heap.size)
  (h : ∀ v' w', w'.ownsRow base e size v' (n + m) (xs ++ news) → w.grownBy w' v.ownBlock → (v'.ownBlock = v.ownBlock ∨ v'.ownBlock = some w.heap.size) → K (a.put o.dst v') w') : o.wp P a w K Q := by
 obtain ⟨v', w', hrun, h2, h3, h4⟩ := run_append_any (P := P) w base t o.type e i z size bytes ht hi hz hsize hby hzs hsz v n xs hown B A m c news hr h1 h63 hbytes hbase
 unfold Oper.wp execOp
 simp only [ho, resolve, invoke, builtin, Sem.run_bind, Sem.run_pure, Result.andThen_ok, List.map_toArray, List.map_cons, List.map_nil, hs, hx, hrun]
 exact h v' w' h2 h3 h4
theorem wpList_append_any {ops : Array Oper} {rest : List Oper} {o : Oper} {a : Act} {Q : Exit → Act → World → Prop} (hgd : o.guard = none) (s x : Operand) (t : TypeId)
  (ho : o.op = .call { callee := .builtin .append, args := #[s, x], argTypes := #[t, t] })
  (base : Nat) (e : TypeId) (i : TypeInfo) (z : Value) (size bytes : Nat) (ht : P.underlying t = some (.slice e)) (hi : P.info? e = some i) (hz : i.zero = some z)
  (hsize : i.size = size) (hby : i.bytes = bytes) (hzs : z.cells.size = size) (hsz : 0 < size)
  (v : Value) (n : Nat) (xs : List Value) (hs : a.eval s = v) (hown : w.ownsRow base e size v n xs)
  (B : Nat) (A : Option Addr) (m c : Nat) (news : List Value) (hx : a.eval x = .slice A m c) (hr : Reads w B size A m news) (h1 : ∀ u ∈ news, u.oneCell' = true)
  (h63 : n + m ≤ maxLen) (hbytes : (n + m) * bytes ≤ 140737488355328) (hbase : base ≤ w.heap.size)
  (h : ∀ v' w', w'.ownsRow base e size v' (n + m) (xs ++ news) → w.grownBy w' v.ownBlock → (v'.ownBlock = v.ownBlock ∨ v'.ownBlock = some w.heap.size) → wpList P ops Q rest (a.put o.dst v') w') : wpList P ops Q (o :: rest) a w :=
 wpList_plain hgd fun _ hK => wp_append_any w s x t ho base e i z size bytes ht hi hz hsize hby hzs hsz v n xs hs hown B A m c news hx hr h1 h63 hbytes hbase fun v' w' h2 h3 h4 => hK _ _ (h v' w' h2 h3 h4)
theorem step_append_any {ops : Array Oper} {o : Oper} {a : Act} {K : Act → World → Prop} {Q : Exit → Act → World → Prop} {E : Prop} (hgd : o.guard = none) (s x : Operand) (t : TypeId)
  (ho : o.op = .call { callee := .builtin .append, args := #[s, x], argTypes := #[t, t] })
  (base : Nat) (e : TypeId) (i : TypeInfo) (z : Value) (size bytes : Nat) (ht : P.underlying t = some (.slice e)) (hi : P.info? e = some i) (hz : i.zero = some z)
  (hsize : i.size = size) (hby : i.bytes = bytes) (hzs : z.cells.size = size) (hsz : 0 < size)
  (v : Value) (n : Nat) (xs : List Value) (hs : a.eval s = v) (hown : w.ownsRow base e size v n xs)
  (B : Nat) (A : Option Addr) (m c : Nat) (news : List Value) (hx : a.eval x = .slice A m c) (hr : Reads w B size A m news) (h1 : ∀ u ∈ news, u.oneCell' = true)
  (h63 : n + m ≤ maxLen) (hbytes : (n + m) * bytes ≤ 140737488355328) (hbase : base ≤ w.heap.size)
  (h : ∀ v' w', w'.ownsRow base e size v' (n + m) (xs ++ news) → w.grownBy w' v.ownBlock → (v'.ownBlock = v.ownBlock ∨ v'.ownBlock = some w.heap.size) → K (a.put o.dst v') w') :
  if Region.wanted o (yielded ops a.tmps) = true then Oper.wp P o a w K Q else E := by
 have hw : Region.wanted o (yielded ops a.tmps) = true := by simp [Region.wanted, hgd]
 rw [if_pos hw]
 exact wp_append_any w s x t ho base e i z size bytes ht hi hz hsize hby hzs hsz v n xs hs hown B A m c news hx hr h1 h63 hbytes hbase h
end
theorem run_make_rowN {P : Program} (t e : TypeId) (i : TypeInfo) (z : Value) (ht : P.underlying t = some (.slice e)) (hi : P.info? e = some i) (hz : i.zero = some z)
  (kl kc : IntKind) (n c : Nat) (hnc : n ≤ c) (hbytes : i.bytes * c ≤ 281474976710656) (h63 : c ≤ 9223372036854775807) (w : World) :
  (Instr.makeSlice t (.int kl (n : Int)) (.int kc (c : Int))).run P w = .ok (.slice (some ⟨w.heap.size, 0, none⟩) n c) (w.alloc (.cells (madeCells z.cells (c * i.size)) e)) := by
 have hb : (i.bytes : Int) * (c : Int) ≤ 281474976710656 := by
  have h : ((i.bytes * c : Nat) : Int) ≤ 281474976710656 := by omega
  rwa [Int.natCast_mul] at h
 have hr := run_make (P := P) w t e i z ht hi hz kl kc n c (by omega) (by omega) hb (by omega)
 simp only [Int.toNat_natCast] at hr
 exact hr
structure Only (fp : List Nat) (w w' : World) : Prop where
 os : w'.os = w.os
 tape : w'.tape = w.tape
 output : w'.output = w.output
 size : w.heap.size ≤ w'.heap.size
 block : ∀ k, k < w.heap.size → k ∉ fp → w'.heap[k]? = w.heap[k]?
section
variable {w w' w1 w2 : World} {fp fq : List Nat}
theorem Only.refl (fp : List Nat) (w : World) : Only fp w w := ⟨rfl, rfl, rfl, Nat.le_refl _, fun _ _ _ => rfl⟩
theorem Only.trans (h : Only fp w w1) (k : Only fp w1 w2) : Only fp w w2 :=
 ⟨k.os.trans h.os, k.tape.trans h.tape, k.output.trans h.output, Nat.le_trans h.size k.size, fun i hi hn => (k.block i (Nat.lt_of_lt_of_le hi h.size) hn).trans (h.block i hi hn)⟩
theorem Only.more (h : Only fp w w') (hs : ∀ k, k ∈ fp → k < w.heap.size → k ∈ fq) : Only fq w w' := ⟨h.os, h.tape, h.output, h.size, fun k hk hn => h.block k hk (fun hm => hn (hs k hm hk))⟩
theorem Only.then (h : Only fp w w1) (k : Only fq w1 w2) (hs : ∀ i, i ∈ fq → i < w.heap.size → i ∈ fp) : Only fp w w2 :=
 ⟨k.os.trans h.os, k.tape.trans h.tape, k.output.trans h.output, Nat.le_trans h.size k.size, fun i hi hn => (k.block i (Nat.lt_of_lt_of_le hi h.size) (fun hm => hn (hs i hm hi))).trans (h.block i hi hn)⟩
theorem Only.below {B : Nat} (h : Only fp w w') (hB : B ≤ w.heap.size) (hs : ∀ k, k ∈ fp → B ≤ k) : Below B w w' :=
 ⟨h.os, h.tape, h.output, h.size, fun k hk => h.block k (by omega) (fun hm => by have := hs k hm; omega)⟩
theorem only_of_below (fp : List Nat) (h : Below w.heap.size w w') : Only fp w w' := ⟨h.os, h.tape, h.output, h.size, fun k hk _ => h.block k hk⟩
theorem Only.setCell (h : Only fp w w') {p : Addr} (hp : p.block ∈ fp ∨ w.heap.size ≤ p.block) (u : Value) : Only fp w (w'.setCell p u) :=
 ⟨h.os, h.tape, h.output, by simpa [World.setCell] using h.size, fun k hk hn => (Below.heap_setCell _ _ _ _ (by
  rintro rfl
  rcases hp with hp | hp
  ·exact hn hp
  ·omega)).trans (h.block k hk hn)⟩
theorem Only.grown (h : Only fp w w1) {row : Option Nat} (hg : w1.grownBy w2 row) (hr : ∀ k, row = some k → k ∈ fp ∨ w.heap.size ≤ k) : Only fp w w2 :=
 ⟨hg.os.trans h.os, hg.tape.trans h.tape, hg.output.trans h.output, Nat.le_trans h.size hg.size, fun k hk hn => (hg.block k (Nat.lt_of_lt_of_le hk h.size) (fun e => by
  rcases hr k e.symm with hm | hm
  ·exact hn hm
  ·omega)).trans (h.block k hk hn)⟩
theorem Only.new (h : Only fp w w1) (k : Below w1.heap.size w1 w2) : Only fp w w2 := h.then (only_of_below [] k) (by simp)
theorem Only.cell (h : Only fp w w') {p : Addr} (hp : p.block < w.heap.size) (hn : p.block ∉ fp) : w'.cell? p = w.cell? p := World.cell?_of_block (w := w) (h.block p.block hp hn)
theorem Blk.only {g : Nat} {t : TypeId} {cs : Array Value} (h : Blk w g t cs) (ho : Only fp w w') (hn : g ∉ fp) : Blk w' g t cs := (ho.block g h.lt hn).trans h
theorem own_only {base : Nat} {e : TypeId} {size : Nat} {v : Value} {n : Nat} {xs : List Value} (h : w.ownsRow base e size v n xs) (ho : Only fp w w') (hn : ∀ k, v.ownBlock = some k → k ∉ fp) : w'.ownsRow base e size v n xs := by
 refine ⟨h.1, ?_⟩
 rcases h.2 with hn' | ⟨g, cap, cur, rfl, hb, hgg, rest⟩
 ·exact .inl hn'
 ·refine .inr ⟨g, cap, cur, rfl, hb, ?_, rest⟩
  rw [ho.block g (Array.getElem?_eq_some_iff.1 hgg).1 (hn g rfl)]
  exact hgg
theorem own_base {base base' : Nat} {e : TypeId} {size : Nat} {v : Value} {n : Nat} {xs : List Value} (h : w.ownsRow base e size v n xs) (hb : base' ≤ base) : w.ownsRow base' e size v n xs := by
 refine ⟨h.1, ?_⟩
 rcases h.2 with hn' | ⟨g, cap, cur, rfl, hbb, rest⟩
 ·exact .inl hn'
 ·exact .inr ⟨g, cap, cur, rfl, by omega, rest⟩
end
end Go.Proofs.YtnldbplphgfpeaaGreat
namespace Go.Proofs.YtnldbplphgfpeaaGreat
open Go Go.RowKit Go.Shelf
set_option linter.unusedVariables false
set_option linter.unusedSimpArgs false
structure CellsKept (B : Nat) (W W' : World) : Prop where
 os : W'.os = W.os
 tape : W'.tape = W.tape
 output : W'.output = W.output
 size : W.heap.size ≤ W'.heap.size
 same : ∀ k o, W.heap[k]? = some o → (o.isCells = true ∨ k < B) → W'.heap[k]? = some o
section
variable {B : Nat} {W W' W'' : World}
theorem cellsKept_of_grown {row : Option Nat} (hg : W.grownBy W' row) (hr : ∀ r, row = some r → B ≤ r ∧ ∃ o : Obj, W.heap[r]? = some o ∧ o.isCells = false) : CellsKept B W W' := by
 refine ⟨hg.os, hg.tape, hg.output, hg.size, fun k o hk ho => ?_⟩
 refine (hg.block k (Array.getElem?_eq_some_iff.1 hk).1 (fun e => ?_)).trans hk
 obtain ⟨h1, o', h2, h3⟩ := hr k e.symm
 rw [hk] at h2
 cases h2
 rcases ho with ho | ho
 ·rw [ho] at h3; cases h3
 ·omega
theorem ownFrom_of {β : Type} {I : β → World → Prop} (h : ∀ s W W', CellsKept B W W' → I s W → I s W') : OwnFrom B I :=
 fun s W W' row hs hg hr => h s W W' (cellsKept_of_grown hg hr) hs
theorem Blk.ck {g : Nat} {t : TypeId} {cs : Array Value} (h : Blk W g t cs) (k : CellsKept B W W') : Blk W' g t cs := k.same g _ h (.inl rfl)
theorem own_ck {base : Nat} {e : TypeId} {size : Nat} {v : Value} {n : Nat} {xs : List Value} (h : W.ownsRow base e size v n xs) (k : CellsKept B W W') : W'.ownsRow base e size v n xs := by
 refine ⟨h.1, ?_⟩
 rcases h.2 with hn' | ⟨g, cap, cur, rfl, hb, hgg, rest⟩
 ·exact .inl hn'
 ·exact .inr ⟨g, cap, cur, rfl, hb, k.same g _ hgg (.inl rfl), rest⟩
theorem below_ck {n₀ : Nat} {w₀ : World} (h : Below n₀ w₀ W) (hn : n₀ ≤ w₀.heap.size) (k : CellsKept B W W') (hB : n₀ ≤ B) : Below n₀ w₀ W' := by
 refine ⟨k.os.trans h.os, k.tape.trans h.tape, k.output.trans h.output, Nat.le_trans h.size k.size, fun i hi => ?_⟩
 have h1 : i < W.heap.size := by have := h.size; omega
 have h2 : W.heap[i]? = some W.heap[i] := Array.getElem?_eq_getElem h1
 rw [k.same i _ h2 (.inr (by omega)), ← h2]
 exact h.block i hi
theorem own_form {base : Nat} {e : TypeId} {size : Nat} {v : Value} {n : Nat} {xs : List Value} (h : W.ownsRow base e size v n xs) : ∃ A c, v = .slice A n c := by
 rcases h.2 with ⟨rfl, rfl⟩ | ⟨g, cap, cur, rfl, _⟩
 ·exact ⟨_, _, rfl⟩
 ·exact ⟨_, _, rfl⟩
def Marks (B : Nat) (W : World) : List Deferred → Prop
 | [] => True
 | d :: ds => (∃ D, d = { target := .collected D, args := #[] } ∧ B ≤ D ∧ W.heap[D]? = some (.deferred (some [])) ∧ ∀ D', ({ target := .collected D', args := #[] } : Deferred) ∈ ds → D' < D) ∧ Marks B W ds
theorem Marks.keep : ∀ {ds : List Deferred}, Marks B W ds → (∀ D, B ≤ D → ({ target := .collected D, args := #[] } : Deferred) ∈ ds → W'.heap[D]? = W.heap[D]?) → Marks B W' ds
 | [], _, _ => trivial
 | d :: ds, ⟨⟨D, e, hB, hD, hlt⟩, hr⟩, hk => ⟨⟨D, e, hB, (hk D hB (by rw [e]; simp)).trans hD, hlt⟩, Marks.keep hr (fun D' hB' hm => hk D' hB' (by simp [hm]))⟩
theorem Marks.lt : ∀ {ds : List Deferred} {D : Nat}, Marks B W ds → ({ target := .collected D, args := #[] } : Deferred) ∈ ds → D < W.heap.size ∧ B ≤ D ∧ W.heap[D]? = some (.deferred (some []))
 | [], _, _, h => by cases h
 | d :: ds, D, ⟨⟨D', e, hB, hD, hlt⟩, hr⟩, hm => by
  rcases List.mem_cons.1 hm with h | h
  ·rw [e] at h
   cases h
   exact ⟨(Array.getElem?_eq_some_iff.1 hD).1, hB, hD⟩
  ·exact Marks.lt hr h
theorem Marks.push {ds : List Deferred} (h : Marks B W ds) {D : Nat} (hB : B ≤ D) (hD : W.heap[D]? = some (.deferred (some []))) (hlt : ∀ D', ({ target := .collected D', args := #[] } : Deferred) ∈ ds → D' < D) :
  Marks B W ({ target := .collected D, args := #[] } :: ds) := ⟨⟨D, rfl, hB, hD, hlt⟩, h⟩
end
end Go.Proofs.YtnldbplphgfpeaaGreat
namespace Go.Proofs.YtnldbplphgfpeaaGreat
open Go Go.RowKit Go.Shelf
set_option linter.unusedVariables false
set_option linter.unusedSimpArgs false
theorem no_depth {p : Prop} (h : Fence.wide.depth.isSome = true) : p := by simp [Fence.wide] at h
theorem leaves_one {F : Fence} {n : Nat} {P : Program} {fn : Func} {tmps : Array Value} {R : Ending → World → Prop} {W : World} {D : Nat} (hD : W.heap[D]? = some (.deferred (some [])))
  (h : LeavesInM F n P fn tmps R [] .returning (W.putObj D (.deferred none))) : LeavesInM F n P fn tmps R [{ target := .collected D, args := #[] }] .returning W :=
 ⟨by simp, .inl ⟨_, _, rfl, run_takeDeferred hD, h⟩⟩
def rpost {α : Type} (B : Nat) (fp : List Nat) (I : List Nat → List α → World → Prop) (Ix : Code → List α → World → Prop) (xs : List α) (W : World) : Exit → Act → World → Prop
 | .normal, _, W' => Only fp W W' ∧ ∃ fp', I fp' xs W' ∧ ∀ k, k ∈ fp' → k ∈ fp ∨ W.heap.size ≤ k
 | .ret, _, W' => (∃ fx, (∀ k, k ∈ fx → k < B) ∧ Only (fx ++ fp) W W') ∧ Ix .ret xs W'
 | .exit id, _, W' => (∃ fx, (∀ k, k ∈ fx → k < B) ∧ Only (fx ++ fp) W W') ∧ Ix (.exit id) xs W'
 | .goto t, _, W' => (∃ fx, (∀ k, k ∈ fx → k < B) ∧ Only (fx ++ fp) W W') ∧ Ix (.goto t) xs W'
 | .panic _, _, _ => False
 | .outgrown, _, _ => False
section
variable {P : Program} {n : Nat}
theorem own_put {β : Type} {B : Nat} {I : β → World → Prop} (h : OwnFrom B I) {s : β} {W : World} {l : Nat} {o : Obj} (o' : Obj) (hs : I s W) (hB : B ≤ l) (hl : W.heap[l]? = some o) (ho : o.isCells = false) : I s (W.putObj l o') :=
 h s W _ (some l) hs (grownBy_putObj' W l o') (fun r e => by cases e; exact ⟨hB, o, hl, ho⟩)
theorem only_round {fp : List Nat} {W W3 : World} {l : Nat} {o o1 : Obj} (hl : W.heap[l]? = some o) (h : Only fp (W.putObj l o1) W3) : Only fp W (W3.putObj l o) := by
 have hlt := (Array.getElem?_eq_some_iff.1 hl).1
 have h3 : l < W3.heap.size := by have := h.size; simp at this; omega
 refine ⟨h.os, h.tape, h.output, by simpa using h.size, fun k hk hn => ?_⟩
 by_cases e : k = l
 ·subst e
  rw [World.putObj_heap_same h3, hl]
 ·rw [World.putObj_heap_other e, h.block k (by simpa using hk) hn, World.putObj_heap_other e]
theorem only_put {fp : List Nat} {W W3 : World} {l : Nat} {o o1 : Obj} (h : Only fp (W.putObj l o1) W3) : Only (l :: fp) W (W3.putObj l o) := by
 refine ⟨h.os, h.tape, h.output, by simpa using h.size, fun k hk hn => ?_⟩
 rw [List.mem_cons, not_or] at hn
 rw [World.putObj_heap_other hn.1, h.block k (by simpa using hk) hn.2, World.putObj_heap_other hn.1]
end
end Go.Proofs.YtnldbplphgfpeaaGreat
namespace Go.Proofs.YtnldbplphgfpeaaGreat
open Go Go.RowKit Go.Shelf
set_option linter.unusedVariables false
set_option linter.unusedSimpArgs false
section
variable {P : Program} {ops : Array Oper} {md : Region.Mode} {Q : Exit → Act → World → Prop} {l n : Nat}
end
end Go.Proofs.YtnldbplphgfpeaaGreat
namespace Go.Proofs.YtnldbplphgfpeaaGreat
open Go Go.RowKit
def opCode (md : Region.Mode) (ops : Array Oper) (o : Oper) : List Nat × Nat × List Nat :=
 ((o.after.toList.filter (Region.binds md)).map (·.on), (match o.dst with | some d => d + 1 | none => 0), o.looksAt ops)
def apartN (d : Nat) (lk : List Nat) (d' : Nat) (lk' : List Nat) : Bool :=
 (match d with | 0 => true | e + 1 => !lk'.elem e && !Nat.beq d' (e + 1)) && (match d' with | 0 => true | e + 1 => !lk.elem e)
def lexChk : Nat → List (List Nat × Nat × List Nat) → Bool
 | _, [] => true
 | k, c :: rest => c.1.all (fun i => Nat.blt i k) && (rest.all (fun c' => c'.1.elem k || apartN c.2.1 c.2.2 c'.2.1 c'.2.2) && lexChk (k + 1) rest)
section
variable {P : Program} {ops : Array Oper} {md : Region.Mode} {C : World → Prop}
theorem apart_of_apartN {x y : Oper} (h : apartN (opCode md ops x).2.1 (opCode md ops x).2.2 (opCode md ops y).2.1 (opCode md ops y).2.2 = true) : x.apart ops y = true := by
 unfold apartN opCode at h
 unfold Oper.apart
 simp only [Bool.and_eq_true] at h ⊢
 obtain ⟨h1, h2⟩ := h
 constructor
 ·cases hx : x.dst with
  | none => rfl
  | some d =>
   simp only [hx, Bool.and_eq_true] at h1 ⊢
   refine ⟨by simpa using h1.1, ?_⟩
   have h3 := h1.2
   cases hy : y.dst with
   | none => rfl
   | some d' =>
    simp only [hy] at h3
    simp only [bne_iff_ne, ne_eq, Option.some.injEq]
    intro e
    subst e
    simp at h3
 ·cases hy : y.dst with
  | none => rfl
  | some d =>
   simp only [hy] at h2 ⊢
   simpa using h2
theorem wpAnyQ_lexChk {Q : Act → Prop} (hs : Region.noSelect ops = true) : ∀ (l : List Oper) (k : Nat) (listed : Array Bool) (a : Act), (∀ j, l[j]? = ops[k + j]?) →
  listed.size = ops.size → (∀ j, j < ops.size → listed[j]? = some (decide (j < k))) →
  lexChk k (l.map (opCode md ops)) = true → wpQuiet P ops C Q l a → wpAnyQ P md ops C Q l.length listed a
 | [], k, listed, _, hl, hsz, hL, _, h => by
  refine ⟨?_, h⟩
  have hk : ops.size ≤ k := by
   have := hl 0
   simp only [List.getElem?_nil, Nat.add_zero] at this
   exact Array.getElem?_eq_none_iff.1 this.symm
  rw [List.eq_nil_iff_forall_not_mem]
  intro j hj
  obtain ⟨h0, o, ho, _⟩ := mem_ready.1 hj
  have hlt : j < ops.size := (Array.getElem?_eq_some_iff.1 ho).1
  have := hL j hlt
  simp [this] at h0
  omega
 | o :: l, k, listed, a, hl, hsz, hL, hB, h => by
  have h0 : ops[k]? = some o := by simpa using (hl 0).symm
  have hk : k < ops.size := (Array.getElem?_eq_some_iff.1 h0).1
  simp only [List.map_cons, lexChk, Bool.and_eq_true] at hB
  obtain ⟨hr, hf, hB'⟩ := hB
  have hready : k ∈ Region.ready md ops listed := by
   refine mem_ready.2 ⟨by simp [hL k hk], o, h0, fun e he hb => ?_⟩
   have h1 := List.all_eq_true.1 hr e.on (by
    simp only [opCode, List.mem_map, List.mem_filter]
    exact ⟨e, ⟨by simpa using he, hb⟩, rfl⟩)
   have h2 : e.on < k := by simpa using h1
   simp [hL e.on (by omega), h2]
  have hfree : ∀ j oj, ops[j]? = some oj → j ≠ k → listed.getD j true = false → (∀ e ∈ oj.after, Region.binds md e = true → e.on ≠ k) → o.apart ops oj = true := by
   intro j oj hj hne hun hno
   have hlt : j < ops.size := (Array.getElem?_eq_some_iff.1 hj).1
   have hge : k < j := by
    simp [hL j hlt] at hun
    omega
   have hmem : oj ∈ l := by
    have := hl (j - k)
    rw [show k + (j - k) = j by omega, hj, show j - k = (j - k - 1) + 1 by omega, List.getElem?_cons_succ] at this
    exact List.mem_of_getElem? this
   have h1 := List.all_eq_true.1 hf (opCode md ops oj) (List.mem_map_of_mem hmem)
   rw [Bool.or_eq_true] at h1
   rcases h1 with h1 | h1
   ·have h2 : k ∈ (opCode md ops oj).1 := by simpa using h1
    simp only [opCode, List.mem_map, List.mem_filter] at h2
    obtain ⟨e, ⟨he, hb⟩, hk'⟩ := h2
    exact absurd hk' (hno e (by simpa using he) hb)
   ·exact apart_of_apartN h1
  have hst : qOp P ops C k (wpQuiet P ops C Q l) a := by unfold qOp; simp only [h0]; exact h
  obtain ⟨v, hy, hK⟩ := yieldsIn_of_qOp h0 hst
  refine wpAnyQ_first h0 (Region.noSelect_spec hs) l.length listed a hfree hready hy
   (wpAnyQ_lexChk hs l (k + 1) _ _ (fun j => by have := hl (j + 1); simpa [Nat.add_assoc, Nat.add_comm 1 j] using this) (by simp [hsz]) (fun j hj => ?_) hB' hK)
  rw [Array.getElem?_setIfInBounds]
  by_cases e : k = j
  ·subst e
   simp [hsz, hk]
  ·rw [if_neg e, hL j hj]
   congr 1
   simp only [decide_eq_decide]
   omega
end
structure Ext (W : World) where
 w : World
 below : Below W.heap.size W w
instance (W : World) : Nonempty (Ext W) := ⟨⟨W, Below.refl _ _⟩⟩
theorem wp_region_grown {P : Program} {id : Nat} {Q : Exit → Act → World → Prop} {a : Act} {w : World} {l : List Oper} (hm : P.follows .mixedOrders = true) (hs : Region.noSelect l.toArray = true)
  (hB : lexChk 0 (l.map (opCode .any l.toArray)) = true)
  (h : wpQuiet P l.toArray (fun w' => ∃ x : Ext w, w' = x.w) (fun a' => ∀ w', (∃ x : Ext w, w' = x.w) → Q .normal a' w') l a) : (Code.region id l.toArray true).wp P Q a w := by
 refine wp_region_any hm (wpAny_of_quiet (C := fun w' => ∃ x : Ext w, w' = x.w) (Q := fun a' => ∀ w', (∃ x : Ext w, w' = x.w) → Q .normal a' w') (fun _ w' hw' h => h w' hw') _ _ _ _ ⟨⟨_, (Below.refl _ w).drew⟩, rfl⟩ ?_)
 have := wpAnyQ_lexChk (C := fun w' => ∃ x : Ext w, w' = x.w) (md := .any) hs l 0 (Array.replicate l.toArray.size false) a (by simp) (by simp) (fun j hj => by simp at hj; simp [hj]) hB h
 simpa using this
theorem grown_of {P : Program} {W : World} {x : Ext W} {f : FuncId} {args : Array Value} {v : Value} (h : Calls P f args x.w fun e w' => e = .returned v ∧ Below x.w.heap.size x.w w') :
  Calls P f args x.w fun e w'' => e = .returned v ∧ ∃ y : Ext W, w'' = y.w :=
 h.mono fun _ _ ⟨he, hb⟩ => ⟨he, ⟨_, x.below.trans (hb.mono x.below.size)⟩, rfl⟩
theorem Ext.cell {W : World} {p : Addr} {v : Value} (h : W.cell? p = some v) (hp : p.block < W.heap.size) (x : Ext W) : x.w.cell? p = some v := (x.below.cell hp).trans h
end Go.Proofs.YtnldbplphgfpeaaGreat
namespace Go.Proofs.YtnldbplphgfpeaaGreat
open Go Go.RowKit Go.Shelf
set_option linter.unusedVariables false
section
variable {P : Program} {n : Nat}
end
end Go.Proofs.YtnldbplphgfpeaaGreat
namespace Go.Proofs.YtnldbplphgfpeaaGreat
open Go Go.RowKit Go.Shelf
set_option linter.unusedVariables false
set_option linter.unusedSimpArgs false
theorem bl_loop (bs : ByteArray) : ∀ (n i : Nat) (r : List UInt8), bs.size - i = n → ByteArray.toList.loop bs i r = r.reverse ++ bs.data.toList.drop i := by
 have hs : bs.size = bs.data.toList.length := by rw [Array.length_toList]; rfl
 intro n
 induction n with
 | zero =>
  intro i r h
  rw [ByteArray.toList.loop.eq_def, if_neg (by omega)]
  rw [List.drop_eq_nil_of_le (by omega), List.append_nil]
 | succ n ih =>
  intro i r h
  have hi : i < bs.data.toList.length := by omega
  rw [ByteArray.toList.loop.eq_def, if_pos (by omega), ih _ _ (by omega), List.drop_eq_getElem_cons hi, List.reverse_cons, List.append_assoc]
  congr 1
  rw [List.singleton_append]
  congr 1
  have hi' : i < bs.data.size := by simpa using hi
  show bs.data[i]! = _
  rw [getElem!_pos bs.data i hi']
  simp
theorem bl_toList (bs : ByteArray) : bs.toList = bs.data.toList := by
 unfold ByteArray.toList
 rw [bl_loop bs _ 0 [] rfl, List.reverse_nil, List.nil_append, List.drop_zero]
theorem bl_inj {a b : ByteArray} (h : a.toList = b.toList) : a = b := by
 rw [bl_toList, bl_toList] at h
 exact ByteArray.ext (Array.toList_inj.1 h)
structure Hd where
 kd : Int
 op : Int
 va : Int
 wd : Int
 nm : ByteArray
structure Loc where
 A : Option Addr
 c : Nat
inductive Ex (α : Type) where
 | mk (h : Hd) (l : α) (subs : List (Ex α))
structure SHd where
 kd : Int
 nm : ByteArray
 bd : Int
inductive St (α : Type) where
 | mk (h : SHd) (lx lt le : α) (ex : List (Ex α)) (th el : List (St α))
section
variable {α β : Type}
def Ex.h : Ex α → Hd | .mk h _ _ => h
def Ex.l : Ex α → α | .mk _ l _ => l
def Ex.subs : Ex α → List (Ex α) | .mk _ _ s => s
def St.h : St α → SHd | .mk h _ _ _ _ _ _ => h
def St.ex : St α → List (Ex α) | .mk _ _ _ _ e _ _ => e
def St.th : St α → List (St α) | .mk _ _ _ _ _ t _ => t
def St.el : St α → List (St α) | .mk _ _ _ _ _ _ t => t
def St.lt : St α → α | .mk _ _ l _ _ _ _ => l
def St.le : St α → α | .mk _ _ _ l _ _ _ => l
mutual
theorem Ex.ind {P : Ex α → Prop} (h : ∀ hd l subs, (∀ x ∈ subs, P x) → P (.mk hd l subs)) : ∀ e, P e
 | .mk hd l subs => h hd l subs (Ex.inds h subs)
theorem Ex.inds {P : Ex α → Prop} (h : ∀ hd l subs, (∀ x ∈ subs, P x) → P (.mk hd l subs)) : ∀ (l : List (Ex α)), ∀ x ∈ l, P x
 | [], x, hx => by cases hx
 | y :: r, x, hx => by
  rcases List.mem_cons.1 hx with e | hx
  ·rw [e]; exact Ex.ind h y
  ·exact Ex.inds h r x hx
end
mutual
theorem St.ind {P : St α → Prop} (h : ∀ hd a b c ex th el, (∀ x ∈ th, P x) → (∀ x ∈ el, P x) → P (.mk hd a b c ex th el)) : ∀ s, P s
 | .mk hd a b c ex th el => h hd a b c ex th el (St.inds h th) (St.inds h el)
theorem St.inds {P : St α → Prop} (h : ∀ hd a b c ex th el, (∀ x ∈ th, P x) → (∀ x ∈ el, P x) → P (.mk hd a b c ex th el)) : ∀ (l : List (St α)), ∀ x ∈ l, P x
 | [], x, hx => by cases hx
 | y :: r, x, hx => by
  rcases List.mem_cons.1 hx with e | hx
  ·rw [e]; exact St.ind h y
  ·exact St.inds h r x hx
end
theorem St.list {Q : List (St α) → Prop} (h : ∀ l, (∀ s ∈ l, Q s.th ∧ Q s.el) → Q l) (l : List (St α)) : Q l := by
 refine h l (St.inds (P := fun s => Q s.th ∧ Q s.el) (fun hd a b c ex th el h1 h2 => ?_) l)
 exact ⟨h th h1, h el h2⟩
mutual
def Ex.sz : Ex α → Nat
 | .mk _ _ s => 1 + szs s
def szs : List (Ex α) → Nat
 | [] => 0
 | x :: r => x.sz + szs r
end
theorem Ex.sz_pos (e : Ex α) : 1 ≤ e.sz := by cases e; simp only [Ex.sz]; omega
theorem szs_append : ∀ (a b : List (Ex α)), szs (a ++ b) = szs a + szs b
 | [], b => by simp [szs]
 | x :: a, b => by simp only [List.cons_append, szs, szs_append a b]; omega
theorem szs_mem : ∀ {l : List (Ex α)} {x : Ex α}, x ∈ l → x.sz ≤ szs l
 | y :: r, x, h => by
  simp only [szs]
  rcases List.mem_cons.1 h with e | h
  ·rw [e]; omega
  ·have := szs_mem h; omega
theorem szs_len : ∀ (l : List (Ex α)), l.length ≤ szs l
 | [] => Nat.le_refl _
 | x :: r => by
  have h1 := szs_len r
  have h2 := x.sz_pos
  simp only [List.length_cons, szs]; omega
mutual
def St.sz : St α → Nat
 | .mk _ _ _ _ ex th el => 1 + szs ex + szS th + szS el
def szS : List (St α) → Nat
 | [] => 0
 | x :: r => x.sz + szS r
end
theorem St.sz_pos (e : St α) : 1 ≤ e.sz := by cases e; simp only [St.sz]; omega
theorem szS_append : ∀ (a b : List (St α)), szS (a ++ b) = szS a + szS b
 | [], b => by simp [szS]
 | x :: a, b => by simp only [List.cons_append, szS, szS_append a b]; omega
theorem szS_mem : ∀ {l : List (St α)} {x : St α}, x ∈ l → x.sz ≤ szS l
 | y :: r, x, h => by
  simp only [szS]
  rcases List.mem_cons.1 h with e | h
  ·rw [e]; omega
  ·have := szS_mem h; omega
theorem szS_len : ∀ (l : List (St α)), l.length ≤ szS l
 | [] => Nat.le_refl _
 | x :: r => by
  have h1 := szS_len r
  have h2 := x.sz_pos
  simp only [List.length_cons, szS]; omega
mutual
def Ex.nodes : Ex α → List (Ex α)
 | .mk h l s => .mk h l s :: nodess s
def nodess : List (Ex α) → List (Ex α)
 | [] => []
 | x :: r => x.nodes ++ nodess r
end
mutual
theorem Ex.nodes_len : ∀ e : Ex α, e.nodes.length = e.sz
 | .mk h l s => by simp only [Ex.nodes, Ex.sz, List.length_cons, nodess_len s]; omega
theorem nodess_len : ∀ l : List (Ex α), (nodess l).length = szs l
 | [] => rfl
 | x :: r => by simp only [nodess, szs, List.length_append, x.nodes_len, nodess_len r]
end
theorem nodess_append : ∀ (a b : List (Ex α)), nodess (a ++ b) = nodess a ++ nodess b
 | [], b => rfl
 | x :: a, b => by simp only [List.cons_append, nodess, nodess_append a b, List.append_assoc]
theorem nodess_at {l : List (Ex α)} {i k : Nat} {x y : Ex α} (hx : l[i]? = some x) (hy : x.nodes[k]? = some y) : (nodess l)[szs (l.take i) + k]? = some y := by
 obtain ⟨hi, hxi⟩ := List.getElem?_eq_some_iff.1 hx
 have e : nodess l = nodess (l.take i) ++ (x.nodes ++ nodess (l.drop (i + 1))) := by
  conv => lhs; rw [← List.take_append_drop i l, nodess_append, List.drop_eq_getElem_cons hi, hxi]
  rfl
 rw [e, List.getElem?_append_right (by rw [nodess_len]; omega), nodess_len, Nat.add_sub_cancel_left, List.getElem?_append_left (List.getElem?_eq_some_iff.1 hy).1]
 exact hy
theorem szs_take_succ {l : List (Ex α)} {i : Nat} {x : Ex α} (hx : l[i]? = some x) : szs (l.take (i + 1)) = szs (l.take i) + x.sz := by
 obtain ⟨hi, hxi⟩ := List.getElem?_eq_some_iff.1 hx
 rw [List.take_succ_eq_append_getElem hi, szs_append, hxi]
 simp [szs]
mutual
def St.nodes : St α → List (St α)
 | .mk h a b c ex th el => .mk h a b c ex th el :: (nodesS th ++ nodesS el)
def nodesS : List (St α) → List (St α)
 | [] => []
 | x :: r => x.nodes ++ nodesS r
end
theorem nodesS_append : ∀ (a b : List (St α)), nodesS (a ++ b) = nodesS a ++ nodesS b
 | [], b => rfl
 | x :: a, b => by simp only [List.cons_append, nodesS, nodesS_append a b, List.append_assoc]
theorem nodesS_split {l : List (St α)} {i : Nat} {x : St α} (hx : l[i]? = some x) : nodesS l = nodesS (l.take i) ++ (x.nodes ++ nodesS (l.drop (i + 1))) := by
 obtain ⟨hi, hxi⟩ := List.getElem?_eq_some_iff.1 hx
 conv => lhs; rw [← List.take_append_drop i l, nodesS_append, List.drop_eq_getElem_cons hi, hxi]
 rfl
theorem nodesS_take_succ {l : List (St α)} {i : Nat} {x : St α} (hx : l[i]? = some x) : nodesS (l.take (i + 1)) = nodesS (l.take i) ++ x.nodes := by
 obtain ⟨hi, hxi⟩ := List.getElem?_eq_some_iff.1 hx
 rw [List.take_succ_eq_append_getElem hi, nodesS_append, hxi]
 simp [nodesS]
theorem St.nodes_eq (s : St α) : s.nodes = s :: (nodesS s.th ++ nodesS s.el) := by cases s; rfl
def Hd.eq (a b : Hd) : Bool := a.kd == b.kd && a.op == b.op && a.va == b.va && a.wd == b.wd && a.nm.toList == b.nm.toList
def SHd.eq (a b : SHd) : Bool := a.kd == b.kd && a.nm.toList == b.nm.toList && a.bd == b.bd
theorem bl_iff {a b : ByteArray} : a.toList = b.toList ↔ a = b := ⟨bl_inj, fun h => by rw [h]⟩
theorem Hd.eq_iff {a b : Hd} : a.eq b = true ↔ a = b := by
 cases a; cases b
 simp [Hd.eq, and_assoc, bl_iff]
theorem SHd.eq_iff {a b : SHd} : a.eq b = true ↔ a = b := by
 cases a; cases b
 simp [SHd.eq, and_assoc, bl_iff]
mutual
def Ex.same : Ex α → Ex β → Bool
 | .mk h _ s, .mk h' _ s' => h.eq h' && sames s s'
def sames : List (Ex α) → List (Ex β) → Bool
 | [], [] => true
 | x :: r, y :: r' => x.same y && sames r r'
 | [], _ :: _ => false
 | _ :: _, [] => false
end
mutual
def St.same : St α → St β → Bool
 | .mk h _ _ _ ex th el, .mk h' _ _ _ ex' th' el' => h.eq h' && (sames ex ex' && (sameS th th' && sameS el el'))
def sameS : List (St α) → List (St β) → Bool
 | [], [] => true
 | x :: r, y :: r' => x.same y && sameS r r'
 | [], _ :: _ => false
 | _ :: _, [] => false
end
mutual
def Ex.plain : Ex α → Ex Unit
 | .mk h _ s => .mk h () (plains s)
def plains : List (Ex α) → List (Ex Unit)
 | [] => []
 | x :: r => x.plain :: plains r
end
mutual
def St.plain : St α → St Unit
 | .mk h _ _ _ ex th el => .mk h () () () (plains ex) (plainS th) (plainS el)
def plainS : List (St α) → List (St Unit)
 | [] => []
 | x :: r => x.plain :: plainS r
end
theorem plains_map : ∀ l : List (Ex α), plains l = l.map Ex.plain
 | [] => rfl
 | x :: r => by simp only [plains, List.map_cons, plains_map r]
theorem plainS_map : ∀ l : List (St α), plainS l = l.map St.plain
 | [] => rfl
 | x :: r => by simp only [plainS, List.map_cons, plainS_map r]
mutual
theorem Ex.same_iff : ∀ (a : Ex α) (b : Ex β), a.same b = true ↔ a.plain = b.plain
 | .mk h _ s, .mk h' _ s' => by simp only [Ex.same, Ex.plain, Bool.and_eq_true, Hd.eq_iff, sames_iff s s', Ex.mk.injEq, true_and]
theorem sames_iff : ∀ (a : List (Ex α)) (b : List (Ex β)), sames a b = true ↔ plains a = plains b
 | [], [] => by simp [sames, plains]
 | x :: r, y :: r' => by simp only [sames, plains, Bool.and_eq_true, x.same_iff y, sames_iff r r', List.cons.injEq]
 | [], _ :: _ => by simp [sames, plains]
 | _ :: _, [] => by simp [sames, plains]
end
mutual
theorem St.same_iff : ∀ (a : St α) (b : St β), a.same b = true ↔ a.plain = b.plain
 | .mk h _ _ _ ex th el, .mk h' _ _ _ ex' th' el' => by simp only [St.same, St.plain, Bool.and_eq_true, SHd.eq_iff, sames_iff ex ex', sameS_iff th th', sameS_iff el el', St.mk.injEq, true_and]
theorem sameS_iff : ∀ (a : List (St α)) (b : List (St β)), sameS a b = true ↔ plainS a = plainS b
 | [], [] => by simp [sameS, plainS]
 | x :: r, y :: r' => by simp only [sameS, plainS, Bool.and_eq_true, x.same_iff y, sameS_iff r r', List.cons.injEq]
 | [], _ :: _ => by simp [sameS, plainS]
 | _ :: _, [] => by simp [sameS, plainS]
end
mutual
theorem Ex.sz_plain : ∀ e : Ex α, e.plain.sz = e.sz
 | .mk _ _ s => by simp only [Ex.plain, Ex.sz, szs_plain s]
theorem szs_plain : ∀ l : List (Ex α), szs (plains l) = szs l
 | [] => rfl
 | x :: r => by simp only [plains, szs, x.sz_plain, szs_plain r]
end
mutual
theorem St.sz_plain : ∀ e : St α, e.plain.sz = e.sz
 | .mk _ _ _ _ ex th el => by simp only [St.plain, St.sz, szs_plain ex, szS_plain th, szS_plain el]
theorem szS_plain : ∀ l : List (St α), szS (plainS l) = szS l
 | [] => rfl
 | x :: r => by simp only [plainS, szS, x.sz_plain, szS_plain r]
end
theorem sames_at : ∀ (a : List (Ex α)) (b : List (Ex β)), a.length = b.length → ((sames a b = true) ↔ ∀ (i : Nat) x y, a[i]? = some x → b[i]? = some y → x.same y = true)
 | [], [], _ => by simp [sames]
 | x :: r, y :: r', h => by
  simp only [sames, Bool.and_eq_true]
  rw [sames_at r r' (by simpa using h)]
  constructor
  ·rintro ⟨h1, h2⟩ i u v hu hv
   cases i with
   | zero => simp at hu hv; subst hu; subst hv; exact h1
   | succ i => exact h2 i u v (by simpa using hu) (by simpa using hv)
  ·intro h
   exact ⟨h 0 x y rfl rfl, fun i u v hu hv => h (i + 1) u v (by simpa using hu) (by simpa using hv)⟩
theorem sames_len : ∀ {a : List (Ex α)} {b : List (Ex β)}, sames a b = true → a.length = b.length
 | [], [], _ => rfl
 | x :: r, y :: r', h => by
  simp only [sames, Bool.and_eq_true] at h
  simp [sames_len h.2]
theorem sameS_at : ∀ (a : List (St α)) (b : List (St β)), a.length = b.length → ((sameS a b = true) ↔ ∀ (i : Nat) x y, a[i]? = some x → b[i]? = some y → x.same y = true)
 | [], [], _ => by simp [sameS]
 | x :: r, y :: r', h => by
  simp only [sameS, Bool.and_eq_true]
  rw [sameS_at r r' (by simpa using h)]
  constructor
  ·rintro ⟨h1, h2⟩ i u v hu hv
   cases i with
   | zero => simp at hu hv; subst hu; subst hv; exact h1
   | succ i => exact h2 i u v (by simpa using hu) (by simpa using hv)
  ·intro h
   exact ⟨h 0 x y rfl rfl, fun i u v hu hv => h (i + 1) u v (by simpa using hu) (by simpa using hv)⟩
theorem sameS_len : ∀ {a : List (St α)} {b : List (St β)}, sameS a b = true → a.length = b.length
 | [], [], _ => rfl
 | x :: r, y :: r', h => by
  simp only [sameS, Bool.and_eq_true] at h
  simp [sameS_len h.2]
def capE (b s : Nat) : Nat := min (b + s) (max (b + 1) 20001)
end
end Go.Proofs.YtnldbplphgfpeaaGreat
