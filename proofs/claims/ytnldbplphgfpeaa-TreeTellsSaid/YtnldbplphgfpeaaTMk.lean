/- The maker of programs: what it makes, as plain functions; the maker in memory; next. -/
import Derived.Test.YtnldbplphgfpeaaTPy
namespace Go.Proofs.Ytnldbplphgfpeaa
open Go Go.RowKit Go.Shelf
set_option linter.unusedVariables false
set_option linter.unusedSimpArgs false
set_option maxHeartbeats 4000000
def sX : ByteArray := ⟨#[120]⟩
def sA : ByteArray := ⟨#[97]⟩
def sC : ByteArray := ⟨#[99]⟩
def sG : ByteArray := ⟨#[103]⟩
def sH : ByteArray := ⟨#[104]⟩
def sI : ByteArray := ⟨#[105]⟩
def sJ : ByteArray := ⟨#[106]⟩
def sV : ByteArray := ⟨#[118]⟩
def sP : ByteArray := ⟨#[112]⟩
/-- The next number. -/
def nx (n : Nat) : List Nat → Nat × List Nat
  | [] => (0, [])
  | b :: r => (b % n, r)
/-- What the maker knows. -/
structure EvP where
  w : Nat
  ins : List Dc
  gh : List Dc
  va : List Dc
  param : Bool
  hasP : Bool
def nameE (s : ByteArray) : Ex Unit := .mk ⟨2, 0, 0, 0, s⟩ () []
def numE (v : Int) (w : Nat) : Ex Unit := .mk ⟨1, 0, v, w, ⟨#[]⟩⟩ () []
def binE (op : Nat) (a b : Ex Unit) : Ex Unit := .mk ⟨6, op, 0, 0, ⟨#[]⟩⟩ () [a, b]
/-- The declarations that leaf looks through. -/
def alls (e : EvP) (wh : Nat) : List Dc := e.ins ++ ((if wh ≠ 1 then e.gh else []) ++ (if wh = 0 then e.va ++ (if e.param then [⟨sX, e.w, 0⟩] else []) else []))
def namesOf (l : List Dc) (width : Nat) : List ByteArray := (l.filter fun d => d.wd == (width : Int)).map (·.nm)
def leafM (e : EvP) (width wh : Nat) (r : List Nat) : Ex Unit × List Nat :=
  if 2 < (nx 8 r).1 ∧ 0 < (namesOf (alls e wh) width).length then (nameE ((namesOf (alls e wh) width)[(nx 8 r).1 % (namesOf (alls e wh) width).length]?.getD ⟨#[]⟩), (nx 8 r).2)
  else (numE (((nx 8 r).1 &&& (2 ^ width - 1) : Nat) : Int) width, (nx 8 r).2)
def exprM (e : EvP) : Nat → Nat → Nat → List Nat → Ex Unit × List Nat
  | 0, width, wh, r => leafM e width wh r
  | d + 1, width, wh, r =>
    let k := (nx 9 r).1
    let r1 := (nx 9 r).2
    if k < 3 then leafM e width wh r1
    else if k = 3 ∧ width = 1 then
      let w := 1 + (nx 3 r1).1
      let r2 := (nx 3 r1).2
      let o := (nx 4 r2).1
      let r3 := (nx 4 r2).2
      let x := exprM e d w wh r3
      let y := exprM e d w wh x.2
      (binE (13 + o) x.1 y.1, y.2)
    else if k < 5 then
      let o := (nx 10 r1).1
      let r2 := (nx 10 r1).2
      let x := exprM e d width wh r2
      let y := exprM e d width wh x.2
      (binE (3 + o) x.1 y.1, y.2)
    else if k = 5 then
      let x := exprM e d 1 wh r1
      let y := exprM e d width wh x.2
      let z := exprM e d width wh y.2
      (.mk ⟨7, 0, 0, 0, ⟨#[]⟩⟩ () [x.1, y.1, z.1], z.2)
    else if k = 6 then
      if (nx 2 r1).1 = 0 then
        let o := (nx 2 (nx 2 r1).2).1
        let x := exprM e d width wh (nx 2 (nx 2 r1).2).2
        (.mk ⟨5, (1 + o : Nat), 0, 0, ⟨#[]⟩⟩ () [x.1], x.2)
      else
        let o := (nx 3 (nx 2 r1).2).1
        let x := exprM e d (1 + o) wh (nx 3 (nx 2 r1).2).2
        (.mk ⟨8, 0, 0, width, ⟨#[]⟩⟩ () [x.1], x.2)
    else if k = 7 ∧ width = e.w ∧ wh ≠ 1 then
      let x := exprM e d 2 wh r1
      (.mk ⟨4, 0, 0, 0, ⟨#[]⟩⟩ () [x.1], x.2)
    else if k = 8 ∧ width = e.w ∧ wh = 0 then
      let x := exprM e d 2 wh r1
      (.mk ⟨3, 0, 0, 0, sA⟩ () [x.1], x.2)
    else leafM e width wh r1
/-- So many, one behind the other. -/
def rep (f : List Nat → St Unit × List Nat) : Nat → List Nat → List (St Unit) × List Nat
  | 0, r => ([], r)
  | n + 1, r => ((rep f n r).1 ++ [(f (rep f n r).2).1], (f (rep f n r).2).2)
def listM (f : List Nat → St Unit × List Nat) (most : Nat) (r : List Nat) : List (St Unit) × List Nat := rep f (nx (most + 1) r).1 (nx (most + 1) r).2
def stM (k : Nat) (n : ByteArray) (ex : List (Ex Unit)) (b : Int) (th el : List (St Unit)) : St Unit := .mk ⟨k, n, b⟩ () () () ex th el
/-- The declaration that a statement sets. -/
def setD (e : EvP) (k : Nat) : ByteArray × Nat := if k = 0 then (sV, e.w) else if k = 1 then (sC, 2) else if k = 2 then (sG, e.w) else (sH, 1)
def oneG (e : EvP) (inner : Option (List Nat → St Unit × List Nat)) (flat : List Nat → St Unit × List Nat) (r : List Nat) : St Unit × List Nat :=
  let k := (nx 16 r).1
  let r1 := (nx 16 r).2
  let other : St Unit × List Nat :=
    let x := leafM e 1 0 r1
    let y := leafM e e.w 0 x.2
    (stM 3 ⟨#[]⟩ [x.1, y.1] 0 [] [], y.2)
  if k < 5 then
    let x := exprM e 1 2 0 r1
    let y := exprM e 2 e.w 0 x.2
    (stM 3 ⟨#[]⟩ [x.1, y.1] 0 [] [], y.2)
  else if k < 7 then (stM 4 ⟨#[]⟩ [] 0 [] [], r1)
  else if k = 7 then (stM 5 ⟨#[]⟩ [] 0 [] [], r1)
  else if k < 10 then
    let d := setD e (nx 4 r1).1
    let x := exprM e 2 d.2 0 (nx 4 r1).2
    (stM 1 d.1 [x.1] 0 [] [], x.2)
  else if k = 10 then
    let x := exprM e 1 2 0 r1
    let y := exprM e 1 e.w 0 x.2
    (stM 2 sA [x.1, y.1] 0 [] [], y.2)
  else if k < 13 ∧ inner.isSome then
    let f := inner.getD flat
    let x := exprM e 2 1 0 r1
    let t := listM f 2 x.2
    let u := listM f 1 t.2
    (stM 6 ⟨#[]⟩ [x.1] 0 t.1 u.1, u.2)
  else if k = 13 ∧ inner.isSome then
    let t := listM flat 2 r1
    let a := (nx 3 t.2).1
    let b := (nx 3 (nx 3 t.2).2).1
    (stM 7 ⟨#[]⟩ [binE 15 (nameE sC) (numE ((1 + b : Nat) : Int) 2)] ((1 + a : Nat) : Int) (t.1 ++ [stM 1 sC [binE 3 (nameE sC) (numE 1 2)] 0 [] []]) [], (nx 3 (nx 3 t.2).2).2)
  else if k = 14 ∧ e.param = false ∧ e.hasP = true then
    let x := exprM e 1 e.w 0 r1
    (stM 8 sP [x.1] 0 [] [], x.2)
  else other
def one0 (e : EvP) : List Nat → St Unit × List Nat := oneG e none fun r => (stM 0 ⟨#[]⟩ [] 0 [] [], r)
def oneM (e : EvP) : Nat → List Nat → St Unit × List Nat
  | 0 => one0 e
  | d + 1 => oneG e (some (oneM e d)) (one0 e)
def stmtsM (e : EvP) (most deep : Nat) (r : List Nat) : List (St Unit) × List Nat := listM (oneM e deep) most r
/-- The initial values of the first so many blocks. -/
def initsM (e : EvP) : Nat → List Nat → List (In Unit) × List Nat
  | 0, r => ([], r)
  | b + 1, r =>
    let p := initsM e b r
    if (nx 3 p.2).1 = 0 then
      let x := exprM e 1 e.w 1 (nx 3 p.2).2
      (p.1 ++ [⟨b, x.1⟩], x.2)
    else (p.1, (nx 3 p.2).2)
def madeM (l : List Nat) : Pg Unit :=
  let r0 := l.take 200
  let bl := 1 + (nx 3 r0).1
  let r1 := (nx 3 r0).2
  let w := 1 + (nx 3 r1).1
  let r2 := (nx 3 r1).2
  let ins : List Dc := [⟨sI, w, 0⟩, ⟨sJ, 1, 0⟩].take (nx 3 r2).1
  let r3 := (nx 3 r2).2
  let gh : List Dc := [⟨sG, w, 0⟩, ⟨sH, 1, 0⟩]
  let va : List Dc := [⟨sV, w, 0⟩, ⟨sC, 2, 0⟩]
  let ar : List Dc := [⟨sA, w, (2 + (nx 2 r3).1 : Nat)⟩]
  let r4 := (nx 2 r3).2
  let e0 : EvP := ⟨w, ins, gh, va, false, false⟩
  let q : Ex Unit × List Nat := if (nx 3 r4).1 = 0 then exprM e0 2 1 1 (nx 3 r4).2 else (numE 1 1, (nx 3 r4).2)
  let i := initsM e0 bl q.2
  let f := (nx 2 i.2).1
  let r5 := (nx 2 i.2).2
  let b := stmtsM { e0 with param := true } 3 1 r5
  let procs : List (Pr Unit) := if f = 1 then [⟨sP, (), [⟨sX, w, 0⟩], (), b.1⟩] else []
  let r6 := if f = 1 then b.2 else r5
  let e1 : EvP := { e0 with hasP := decide (f = 1) }
  let k := stmtsM e1 5 2 r6
  let c := stmtsM e1 3 1 k.2
  let v := exprM e1 3 1 2 c.2
  ⟨bl, w, (), ins, (), gh, (), va, (), ar, q.1, (), i.1, (), procs, (), k.1, (), c.1, v.1⟩
-- in memory
/-- What the maker reads. -/
structure Rd where
  LA : Option Addr
  n : Nat
  c : Nat
  bytes : List Nat
/-- The maker: what it reads, and how far. -/
structure Nx (B : Nat) (W : World) (M : Nat) (cs : Array Value) (d : Rd) (r : List Nat) : Prop where
  sz : cs.size = 25
  at_ : ∃ at_ : Nat, Blk W M 71 (cs.setIfInBounds 1 (.int .i64 at_)) ∧ at_ ≤ d.n ∧ r = d.bytes.drop at_
  c0 : cs[0]? = some (.slice d.LA d.n d.c)
  rd : Reads W M 1 d.LA d.n (d.bytes.map fun (b : Nat) => Value.int .u8 (b : Int))
  lt : ∀ b ∈ d.bytes, b < 256
  n2 : d.n ≤ 200
  MB : M < B
section
variable {B : Nat} {W W' : World} {M : Nat} {cs : Array Value} {d : Rd} {r : List Nat}
theorem Nx.below (h : Nx B W M cs d r) (hb : Below B W W') : Nx B W' M cs d r := by
  obtain ⟨a, h1, h2⟩ := h.at_
  exact ⟨h.sz, ⟨a, h1.below hb h.MB, h2⟩, h.c0, h.rd.keep (fun p hp => hb.cell (by have := h.MB; omega)), h.lt, h.n2, h.MB⟩
theorem Nx.lt_size (h : Nx B W M cs d r) : M < W.heap.size := by
  obtain ⟨a, h1, h2⟩ := h.at_
  exact h1.lt
theorem Nx.blen (h : Nx B W M cs d r) : d.bytes.length = d.n := by
  have := h.rd.1
  simpa using this
end
theorem nx_lt {n : Nat} (hn : 0 < n) (r : List Nat) : (nx n r).1 < n := by
  cases r with
  | nil => exact hn
  | cons b r => exact Nat.mod_lt _ hn
theorem Nx.drewN {B : Nat} {W : World} {M : Nat} {cs : Array Value} {d : Rd} {r : List Nat} (h : Nx B W M cs d r) (q : Nat) : Nx B (W.drewN q) M cs d r := h.below ⟨rfl, rfl, rfl, Nat.le_refl _, fun _ _ => rfl⟩
set_option maxRecDepth 100000 in
theorem next_ok (n : Nat) (hn : 0 < n) (hn2 : n ≤ 1000) (B M : Nat) (cs : Array Value) (d : Rd) (r : List Nat) (w : World) (h : Nx B w M cs d r) :
    Calls Try.prog 32 #[.pointer (some ⟨M, 0, none⟩), .int .i64 n] w fun e w' => e = .returned (.int .i64 (nx n r).1) ∧ Nx B w' M cs d (nx n r).2 ∧ Only [M] w w' := by
  obtain ⟨a, hb, ha, hr⟩ := h.at_
  have hs := h.sz
  have hbl := h.blen
  have g0 : ∀ v, (cs.setIfInBounds 1 v)[0]? = some (.slice d.LA d.n d.c) := fun v => by rw [Array.getElem?_setIfInBounds_ne (by omega)]; exact h.c0
  have g1 : ∀ v, (cs.setIfInBounds 1 v)[1]? = some v := fun v => by rw [Array.getElem?_setIfInBounds_self_of_lt (by omega)]
  have c0 := (hb.cell 0).trans (g0 _)
  have c1 := (hb.cell 1).trans (g1 _)
  have hMl := hb.lt
  have hn200 := h.n2
  have n0 : 0 ≤ (n : Int) := by omega
  by_cases hlt : a < d.n
  · have hx : d.bytes[a]? = some (d.bytes[a]'(by omega)) := List.getElem?_eq_getElem (by omega)
    generalize d.bytes[a]'(by omega) = b at hx
    obtain ⟨ad, u, hA, hadB, hu, hcell⟩ := h.rd.at_ hlt
    have hb256 : b < 256 := h.lt b (List.mem_of_getElem? hx)
    rw [List.getElem?_map, hx] at hu
    obtain rfl : .int .u8 (b : Int) = u := by simpa using hu
    have hrr : r = b :: d.bytes.drop (a + 1) := by
      rw [hr]
      obtain ⟨h1, h2⟩ := List.getElem?_eq_some_iff.1 hx
      rw [List.drop_eq_getElem_cons h1, h2]
    have hnx : nx n r = (b % n, d.bytes.drop (a + 1)) := by rw [hrr]; rfl
    rw [hnx]
    have hstep : ∀ W, Nx B W M cs d r → Blk W M 71 (cs.setIfInBounds 1 (.int .i64 (a : Int))) → Nx B (W.setCell ⟨M, 1, none⟩ (.int .i64 ((a : Int) + 1))) M cs d (d.bytes.drop (a + 1)) ∧ Blk (W.setCell ⟨M, 1, none⟩ (.int .i64 ((a : Int) + 1))) M 71 (cs.setIfInBounds 1 (.int .i64 ((a : Int) + 1))) := fun W hW hbW => by
      have hb' := hbW.set_ 1 (.int .i64 ((a : Int) + 1))
      rw [Array.setIfInBounds_setIfInBounds] at hb'
      refine ⟨⟨hs, ⟨a + 1, ?_, by omega, rfl⟩, h.c0, hW.rd.setCell (Nat.le_refl _) _, h.lt, h.n2, h.MB⟩, hb'⟩
      exact hb'
    have hlt1 : ¬ (d.n : Int) ≤ (a : Int) := by omega
    have a0 : 0 ≤ (a : Int) := by omega
    have a1 : (a : Int) < (d.n : Int) := by omega
    have hmod : (b : Int).tmod (n : Int) = ((b % n : Nat) : Int) := rfl
    have hml : (b % n) < 256 := Nat.lt_of_le_of_lt (Nat.mod_le _ _) hb256
    have hadM : ad.block ≠ M := by omega
    replace hstep := Lib.hid hstep
    replace hrr := Lib.hid hrr
    replace hnx := Lib.hid hnx
    replace hr := Lib.hid hr
    replace hx := Lib.hid hx
    have hcells := fun W (hW : Nx B W M cs d r) => hW.rd.at_ hlt
    replace hcells := Lib.hid hcells
    clear hu
    have hA' := hA
    obtain ⟨dA, dn, dc, dby⟩ := d
    dsimp only at hA c0 hlt1 a1 hn200 ha hlt g0 hbl
    subst hA
    replace g0 := Lib.hid g0
    replace g1 := Lib.hid g1
    go_enter Try.func32, Try.ntmps32
    go_wp2_with fail
    go_quiet (fail)
    have hD := h.drewN nq
    have hO : Only [M] w (w.drewN nq) := (Only.refl _ _).drewN nq
    replace hb := hb.drewN nq
    have hcell : (w.drewN nq).cell? (ad.add a) = some (.int .u8 (b : Int)) := hcell
    clear c0 c1 hMl h
    generalize w.drewN nq = W1 at *
    have c1 := (hb.cell 1).trans (g1.out _)
    have f1 := hb.frozen 1
    have hMl := hb.lt
    obtain ⟨hN2, hb2⟩ := hstep.out _ hD hb
    have hO2 : Only [M] w (W1.setCell ⟨M, 1, none⟩ (.int .i64 ((a : Int) + 1))) := hO.setCell (.inl (by simp)) _
    have cl2 : (W1.setCell ⟨M, 1, none⟩ (.int .i64 ((a : Int) + 1))).cell? (ad.add a) = some (.int .u8 (b : Int)) := by
      rw [World.cell?_setCell_other W1 _ _ _ (fun e => hadM (by have := congrArg Addr.block e; rw [block_of_add] at this; exact this.symm))]; exact hcell
    replace hN2 := Lib.hid hN2
    replace hO2 := Lib.hid hO2
    go_upto_region 4 with (fail)
    clear c1 f1 hMl
    generalize W1.setCell ⟨M, 1, none⟩ (.int .i64 ((a : Int) + 1)) = W2 at *
    have c0 := (hb2.cell 0).trans (g0.out _)
    have c1 := (hb2.cell 1).trans (g1.out _)
    have hMl := hb2.lt
    have hadl := cell_lt cl2
    go_quiet (fail)
    go_wp2
    go_ret
    exact ⟨by rfl, hN2.out.drewN _, hO2.out.drewN _⟩
  · have hnx : nx n r = (0, r) := by
      have : r = [] := by rw [hr]; exact List.drop_eq_nil_of_le (by omega)
      rw [this]; rfl
    rw [hnx]
    have hlt1 : (d.n : Int) ≤ (a : Int) := by omega
    have a0 : 0 ≤ (a : Int) := by omega
    replace hnx := Lib.hid hnx
    replace hr := Lib.hid hr
    obtain ⟨dA, dn, dc, dby⟩ := d
    dsimp only at c0 hlt1 hn200 ha hlt g0 hbl
    clear g0 g1
    go_enter Try.func32, Try.ntmps32
    go_wp2_with fail
    go_quiet (fail)
    go_wp2
    go_ret
    exact ⟨rfl, h.drewN _, (Only.refl _ _).drewN _⟩
end Go.Proofs.Ytnldbplphgfpeaa
