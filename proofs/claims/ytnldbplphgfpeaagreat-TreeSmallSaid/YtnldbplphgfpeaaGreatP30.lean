/- Lemmas for salvor/salvorlaw29.TreeSmall (part 30); no condition. -/
import Derived.Test.YtnldbplphgfpeaaGreatP29
namespace Go.Proofs.YtnldbplphgfpeaaGreat
open Go Go.RowKit Go.Shelf
set_option linter.unusedVariables false
set_option linter.unusedSimpArgs false
set_option maxHeartbeats 16000000
def boxW (W : World) (cs : Array Value) : World := (W.alloc (.cells zP 35)).setCells W.heap.size 0 cs.toList
theorem boxW_blk (W : World) {cs : Array Value} (h : cs.size = 22) : Blk (boxW W cs) W.heap.size 35 cs := blk_put6 (Blk.new W 35 zP) (vs := cs) (by rw [h]; rfl)
theorem boxW_below (W : World) (cs : Array Value) : Below W.heap.size W (boxW W cs) := (new_below W _).trans ((only_setCells (b := W.heap.size) cs.toList 0 _).below (B := W.heap.size) (by simp) (by simp))
theorem boxW_there (W : World) : (W.alloc (.cells zP 35)).there W.heap.size 0 22 := there_blk_at (Blk.new W 35 zP) (by decide)
structure LP (W1 : World) (ad : Addr) (c : Nat) (ps : List (Pg Loc)) (g : Nat) (p : Pg Loc) (cs : Array Value) (V : World) : Prop where
 low : Below W1.heap.size W1 V
 all : Pgs (some ad) c ps V
 ok : p.ok eT V
 box : Blk V g 35 cs
theorem LP.below {W1 V V' : World} {ad : Addr} {c g : Nat} {ps : List (Pg Loc)} {p : Pg Loc} {cs : Array Value} (h : LP W1 ad c ps g p cs V) (hb : Below V.heap.size V V') : LP W1 ad c ps g p cs V' := ⟨below_and h.low hb, h.all.below hb, h.ok.below hb, h.box.below hb h.box.lt⟩
theorem LP.at {W1 V : World} {ad : Addr} {c g : Nat} {ps : List (Pg Loc)} {p : Pg Loc} {cs : Array Value} (h : LP W1 ad c ps g p cs V) (hcs : RowKit.Hid (cs = (p.cells eT).toArray)) : PgAt g p V := PgAt.of (t := 35) (by rw [← hcs.out]; exact h.box)
theorem Pgs.one {ad : Addr} {c : Nat} {ps : List (Pg Loc)} {W : World} (h : Pgs (some ad) c ps W) {k : Nat} (hk : k < 28) : ∃ (p : Pg Loc) (cs : Array Value), RowKit.Hid (cs = (p.cells eT).toArray) ∧ RowKit.Hid ((p.cells eT).length = 22) ∧ cs.size = 22 ∧ cs.all (·.oneCell') = true ∧ CellsAt W (ad.add (k * 22)) (p.cells eT) ∧ RowKit.Hid (p.ok eT W ∧ p.rng ∧ p.wt ≤ 500) := by
 obtain ⟨ad', p, hA, h1, h2⟩ := h.at hk
 cases hA
 exact ⟨p, _, Lib.hid rfl, Lib.hid (by have := Pg.cells_len eT p; simpa using this), Pg.cells_len eT p, cells_oneE eT p, h1, Lib.hid h2⟩
structure KI (w : World) (k : Int) (b : Nat) (V : World) : Prop where
 low : Below w.heap.size w V
 kd : KD k b (b + 1 + 1) (b + 1 + 1 + 1) (b + 1 + 1 + 1 + 1 + 1) (b + 1 + 1 + 1 + 1 + 1 + 1) (b + 1 + 1 + 1 + 1) V
 box : Blk V (b + 1) 30 #[.int .u8 k, .int .u8 0, .int .u32 0, .int .i64 0, .string ⟨#[120]⟩, .slice (some ⟨b, 0, none⟩) 2 2]
theorem KI.below {w V V' : World} {k : Int} {b : Nat} (h : KI w k b V) (hb : Below V.heap.size V V') : KI w k b V' := ⟨below_and h.low hb, h.kd.below hb, h.box.below hb h.box.lt⟩
theorem blk_new {V : World} {g t : Nat} (cs : Array Value) (h : V.heap.size = g) : Blk (V.alloc (.cells cs t)) g t cs := h ▸ Blk.new V t cs
def kW (V : World) (k : Int) : World := ((((((V.alloc (.cells #[.int .u8 2, .int .u8 0, .int .u32 0, .int .i64 0, .string ⟨#[120]⟩, .slice none 0 0, .int .u8 k, .int .u8 0, .int .u32 0, .int .i64 0, .string ⟨#[121]⟩, .slice none 0 0] 30)).alloc (.cells #[.int .u8 k, .int .u8 0, .int .u32 0, .int .i64 0, .string ⟨#[120]⟩, .slice (some ⟨V.heap.size, 0, none⟩) 2 2] 30)).alloc (.cells #[.int .u8 k, .int .u8 0, .int .u32 0, .int .i64 0, .string ⟨#[120]⟩, .slice (some ⟨V.heap.size, 0, none⟩) 2 2] 30)).alloc (.cells #[.int .u8 k, .string ⟨#[121]⟩, .slice none 0 0, .int .i64 0, .slice none 0 0, .slice none 0 0] 40)).alloc (.cells #[.int .u8 k, .int .u8 0, .int .u32 0, .int .i64 0, .string ⟨#[120]⟩, .slice (some ⟨V.heap.size, 0, none⟩) 2 2, .int .u8 k, .int .u8 0, .int .u32 0, .int .i64 0, .string ⟨#[120]⟩, .slice (some ⟨V.heap.size, 0, none⟩) 2 2] 30)).alloc (.cells #[.int .u8 k, .string ⟨#[120]⟩, .slice (some ⟨V.heap.size + 1 + 1 + 1 + 1, 0, none⟩) 2 2, .int .i64 0, .slice none 0 0, .slice none 0 0] 40)).alloc (.cells #[.int .u8 k, .string ⟨#[120]⟩, .slice (some ⟨V.heap.size + 1 + 1, 0, none⟩) 1 1, .int .i64 0, .slice (some ⟨V.heap.size + 1 + 1 + 1, 0, none⟩) 1 1, .slice none 0 0, .int .u8 k, .string ⟨#[120]⟩, .slice none 0 0, .int .i64 0, .slice none 0 0, .slice (some ⟨V.heap.size + 1 + 1 + 1 + 1 + 1, 0, none⟩) 1 1] 40)
theorem kW_ok {w V : World} (k : Int) (hb : Below w.heap.size w V) : KI w k V.heap.size (kW V k) := by
 refine ⟨?_, ⟨?_, ?_, ?_, ?_, ?_, ?_⟩, ?_⟩
 ·have h := hb.size
  refine ((((((hb.alloc ?_ _).alloc ?_ _).alloc ?_ _).alloc ?_ _).alloc ?_ _).alloc ?_ _).alloc ?_ _ <;> first | omega | (simp; omega)
 ·exact (((((((blk_new _ rfl).alloc _).alloc _).alloc _).alloc _).alloc _).alloc _)
 ·exact (((((blk_new _ (by simp)).alloc _).alloc _).alloc _).alloc _)
 ·exact ((((blk_new _ (by simp)).alloc _).alloc _).alloc _)
 ·exact (((blk_new _ (by simp)).alloc _).alloc _)
 ·exact ((blk_new _ (by simp)).alloc _)
 ·exact blk_new _ (by simp)
 ·exact ((((((blk_new _ (by simp)).alloc _).alloc _).alloc _).alloc _).alloc _)
theorem infoD : (Tryz.prog.info? 60).map (fun i => (i.zero, i.size, i.bytes)) = some (some (.agg #[.string ⟨#[]⟩, .int .i64 0, .int .i64 0]), 3, 32) := by kernel_rfl
theorem infoX : (Tryz.prog.info? 30).map (fun i => (i.zero, i.size, i.bytes)) = some (some (.agg #[.int .u8 0, .int .u8 0, .int .u32 0, .int .i64 0, .string ⟨#[]⟩, .slice none 0 0]), 6, 56) := by kernel_rfl
structure HI (w : World) (g1 g2 X n : Nat) (c1 c2 c3 : Array Value) (V : World) : Prop where
 low : Below w.heap.size w V
 b1 : Blk V g1 30 c1
 b2 : Blk V g2 30 c2
 b3 : Blk V X 30 c3
 h1 : HX 20001 X c1 V
 h2 : JX X c2 V
 h3 : HX n X c3 V
 ne : g1 ≠ X ∧ g2 ≠ X ∧ w.heap.size ≤ X
theorem HI.below {w V V' : World} {g1 g2 X n : Nat} {c1 c2 c3 : Array Value} (h : HI w g1 g2 X n c1 c2 c3 V) (hb : Below V.heap.size V V') : HI w g1 g2 X n c1 c2 c3 V' :=
 ⟨below_and h.low hb, h.b1.below hb h.b1.lt, h.b2.below hb h.b2.lt, h.b3.below hb h.b3.lt, h.h1.below hb, h.h2.below hb, h.h3.below hb, h.ne⟩
def zW (W : World) (Z1 Z2 : Array Value) : World := (((W.alloc (.cells Z1 30)).alloc (.cells #[.int .u8 7, .int .u8 0, .int .u32 0, .int .i64 0, .string ⟨#[]⟩, .slice (some ⟨W.heap.size, 0, none⟩) 20000 20000] 30)).alloc (.cells Z2 30)).alloc (.cells #[.int .u8 7, .int .u8 0, .int .u32 0, .int .i64 0, .string ⟨#[]⟩, .slice (some ⟨W.heap.size + 1 + 1, 0, none⟩) 19999 19999] 30)
theorem hi_init {w W V : World} {Z1 Z2 : Array Value} (hb : Below w.heap.size w W) (h1 : Z1.toList = (List.replicate 20000 zX).flatMap (Ex.cells eT)) (h2 : Z2.toList = (List.replicate 19999 zX).flatMap (Ex.cells eT)) (hV : Below (zW W Z1 Z2).heap.size (zW W Z1 Z2) V) :
  HI w (W.heap.size + 1) (W.heap.size + 1 + 1 + 1) V.heap.size 1 #[.int .u8 7, .int .u8 0, .int .u32 0, .int .i64 0, .string ⟨#[]⟩, .slice (some ⟨W.heap.size, 0, none⟩) 20000 20000] #[.int .u8 7, .int .u8 0, .int .u32 0, .int .i64 0, .string ⟨#[]⟩, .slice (some ⟨W.heap.size + 1 + 1, 0, none⟩) 19999 19999] #[.int .u8 2, .int .u8 0, .int .u32 0, .int .i64 0, .string ⟨#[120]⟩, .slice none 0 0] (V.alloc (.cells #[.int .u8 2, .int .u8 0, .int .u32 0, .int .i64 0, .string ⟨#[120]⟩, .slice none 0 0] 30)) := by
 have hs := hb.size
 have h0 : Below w.heap.size w (zW W Z1 Z2) := by
  refine (((hb.alloc ?_ _).alloc ?_ _).alloc ?_ _).alloc ?_ _ <;> first | omega | (simp; omega)
 have hz : (zW W Z1 Z2).heap.size = W.heap.size + 1 + 1 + 1 + 1 := by simp [zW]
 have hB := hV.trans (new_below V (.cells #[.int .u8 2, .int .u8 0, .int .u32 0, .int .i64 0, .string ⟨#[120]⟩, .slice none 0 0] 30) |>.mono hV.size)
 have b0 : Blk (zW W Z1 Z2) W.heap.size 30 Z1 := (((blk_new _ rfl).alloc _).alloc _).alloc _
 have b1 : Blk (zW W Z1 Z2) (W.heap.size + 1) 30 #[.int .u8 7, .int .u8 0, .int .u32 0, .int .i64 0, .string ⟨#[]⟩, .slice (some ⟨W.heap.size, 0, none⟩) 20000 20000] := ((blk_new _ (by simp)).alloc _).alloc _
 have b2 : Blk (zW W Z1 Z2) (W.heap.size + 1 + 1) 30 Z2 := (blk_new _ (by simp)).alloc _
 have b3 : Blk (zW W Z1 Z2) (W.heap.size + 1 + 1 + 1) 30 #[.int .u8 7, .int .u8 0, .int .u32 0, .int .i64 0, .string ⟨#[]⟩, .slice (some ⟨W.heap.size + 1 + 1, 0, none⟩) 19999 19999] := blk_new _ (by simp)
 have hv := hV.size
 exact ⟨h0.trans (hB.mono h0.size), b1.below hB b1.lt, b3.below hB b3.lt, Blk.new V 30 #[.int .u8 2, .int .u8 0, .int .u32 0, .int .i64 0, .string ⟨#[120]⟩, .slice none 0 0], hx_wide' W.heap.size 20000 V.heap.size 7 (by omega) (by omega) (b0.below hB b0.lt) h1, jx_wide (W.heap.size + 1 + 1) V.heap.size 7 (by omega) (b2.below hB b2.lt) h2, hx_name ⟨#[120]⟩ V.heap.size _, by omega, by omega, by omega⟩
theorem HI.more {w V V' : World} {g1 g2 X n g : Nat} {c1 c2 c3 : Array Value} (h : HI w g1 g2 X n c1 c2 c3 V) (hb : Below V.heap.size V V') (hg : V.heap.size ≤ g) (hbl : Blk V' g 30 (c3 ++ c3)) :
  HI w g1 g2 X (n + n) c1 c2 #[.int .u8 6, .int .u8 3, .int .u32 0, .int .i64 0, .string ⟨#[]⟩, .slice (some ⟨g, 0, none⟩) 2 2] (V'.setCells X 0 [.int .u8 6, .int .u8 3, .int .u32 0, .int .i64 0, .string ⟨#[]⟩, .slice (some ⟨g, 0, none⟩) 2 2]) := by
 have h' := h.below hb
 have hX := h.b3.lt
 have ho : Only [X] V' (V'.setCells X 0 [.int .u8 6, .int .u8 3, .int .u32 0, .int .i64 0, .string ⟨#[]⟩, .slice (some ⟨g, 0, none⟩) 2 2]) := only_setCells (b := X) _ 0 V'
 have h6 := h.h3.size
 exact ⟨h'.low.trans (ho.below (B := w.heap.size) h'.low.size (by simpa using h.ne.2.2)), h'.b1.only ho (by simpa using h.ne.1), h'.b2.only ho (by simpa using h.ne.2.1), blk_put6 h'.b3 (vs := #[.int .u8 6, .int .u8 3, .int .u32 0, .int .i64 0, .string ⟨#[]⟩, .slice (some ⟨g, 0, none⟩) 2 2]) (by rw [h6]; rfl), h'.h1.only ho, h'.h2.only ho, (h'.h3.two (by omega) hbl).only ho, h.ne⟩
theorem six {cs : Array Value} (h : cs.size = 6) : ∃ x0 x1 x2 x3 x4 x5, cs = #[x0, x1, x2, x3, x4, x5] := by
 obtain ⟨l⟩ := cs
 match l, h with
 | [x0, x1, x2, x3, x4, x5], _ => exact ⟨x0, x1, x2, x3, x4, x5, rfl⟩
structure HJ (w : World) (g1 g2 X gd : Nat) (c1 c2 c3 : Array Value) (V : World) : Prop where
 hi : HI w g1 g2 X 20001 c1 c2 c3 V
 deep : HS 20001 (some ⟨gd, 0, none⟩) 1 1 V
theorem HJ.below {w V V' : World} {g1 g2 X gd : Nat} {c1 c2 c3 : Array Value} (h : HJ w g1 g2 X gd c1 c2 c3 V) (hb : Below V.heap.size V V') : HJ w g1 g2 X gd c1 c2 c3 V' := ⟨h.hi.below hb, h.deep.below hb⟩
theorem HI.le {w V : World} {g1 g2 X n k : Nat} {c1 c2 c3 : Array Value} (h : HI w g1 g2 X n c1 c2 c3 V) (hk : k ≤ n) : HI w g1 g2 X k c1 c2 c3 V := ⟨h.low, h.b1, h.b2, h.b3, h.h1, h.h2, h.h3.le hk, h.ne⟩
def dW (W : World) (c3 : Array Value) : World := ((W.alloc (.cells c3 30)).alloc (.cells #[.int .u8 1, .string ⟨#[120]⟩, .slice (some ⟨W.heap.size, 0, none⟩) 1 1, .int .i64 0, .slice none 0 0, .slice none 0 0] 40)).alloc (.cells #[.int .u8 8, .string ⟨#[112]⟩, .slice none 0 0, .int .i64 0, .slice none 0 0, .slice none 0 0] 40)
theorem dW_ok {w W : World} {g1 g2 X : Nat} {c1 c2 c3 : Array Value} (h : HI w g1 g2 X 20001 c1 c2 c3 W) : HJ w g1 g2 X (W.heap.size + 1) c1 c2 c3 (dW W c3) ∧ HS 1 (some ⟨W.heap.size + 1 + 1, 0, none⟩) 1 1 (dW W c3) := by
 have hb : Below W.heap.size W (dW W c3) := (((Below.refl _ W).alloc (Nat.le_refl _) _).alloc (by simp) _).alloc (by simp; omega) _
 have b0 : Blk (dW W c3) W.heap.size 30 c3 := ((blk_new _ rfl).alloc _).alloc _
 have b1 : Blk (dW W c3) (W.heap.size + 1) 40 #[.int .u8 1, .string ⟨#[120]⟩, .slice (some ⟨W.heap.size, 0, none⟩) 1 1, .int .i64 0, .slice none 0 0, .slice none 0 0] := (blk_new _ (by simp)).alloc _
 have b2 : Blk (dW W c3) (W.heap.size + 1 + 1) 40 #[.int .u8 8, .string ⟨#[112]⟩, .slice none 0 0, .int .i64 0, .slice none 0 0, .slice none 0 0] := blk_new _ (by simp)
 have h' := h.below hb
 exact ⟨⟨h', h'.h3.stmt b0 b1⟩, hs_one b2⟩
structure HR (w : World) (g1 g2 X gd gm r : Nat) (c1 c2 c3 : Array Value) (V : World) : Prop where
 j : HJ w g1 g2 X gd c1 c2 c3 V
 many : HS 20001 (some ⟨gm, 0, none⟩) 1 1 V
 row : Blk V r 30 (c1 ++ c3)
theorem HR.below {w V V' : World} {g1 g2 X gd gm r : Nat} {c1 c2 c3 : Array Value} (h : HR w g1 g2 X gd gm r c1 c2 c3 V) (hb : Below V.heap.size V V') : HR w g1 g2 X gd gm r c1 c2 c3 V' := ⟨h.j.below hb, h.many.below hb, h.row.below hb h.row.lt⟩
theorem HR.at {w V : World} {g1 g2 X gd gm r : Nat} {c1 c2 c3 : Array Value} (h : HR w g1 g2 X gd gm r c1 c2 c3 V) {j : Nat} (hj : j < 2) : ∃ c : Array Value, c.size = 6 ∧ c.all (·.oneCell') = true ∧ CellsAt V ⟨r, j * 6, none⟩ c.toList ∧ HX 20001 X c V := by
 have ha : (⟨r, 0, none⟩ : Addr).add (j * 6) = ⟨r, j * 6, none⟩ := by rw [Addr.add_mid, Nat.zero_add]
 rw [← ha]
 have e : (c1.toList ++ c3.toList).toArray = c1 ++ c3 := by simp
 have hc := cells_blk (W := V) (cs := c1.toList ++ c3.toList) (t := 30) (g := r) (by rw [e]; exact h.row)
 have s1 := h.j.hi.h1.size
 match j, hj with
 | 0, _ => exact ⟨c1, s1, h.j.hi.h1.one, cells_sub (pre := []) hc rfl rfl, h.j.hi.h1⟩
 | 1, _ => exact ⟨c3, h.j.hi.h3.size, h.j.hi.h3.one, cells_sub (pre := c1.toList) (post := []) hc (by rw [List.append_nil]) (by rw [Array.length_toList, s1]), h.j.hi.h3⟩
def boxX (W : World) (cs : Array Value) : World := (W.alloc (.cells zE 30)).setCells W.heap.size 0 cs.toList
theorem boxX_blk (W : World) {cs : Array Value} (h : cs.size = 6) : Blk (boxX W cs) W.heap.size 30 cs := blk_put6 (Blk.new W 30 zE) (vs := cs) (by rw [h]; rfl)
theorem boxX_below (W : World) (cs : Array Value) : Below W.heap.size W (boxX W cs) := (new_below W _).trans ((only_setCells (b := W.heap.size) cs.toList 0 _).below (B := W.heap.size) (by simp) (by simp))
theorem boxX_there (W : World) : (W.alloc (.cells zE 30)).there W.heap.size 0 6 := there_blk_at (Blk.new W 30 zE) (by decide)
structure HQ (w : World) (g1 g2 X gd gm r b : Nat) (c1 c2 c3 c : Array Value) (V : World) : Prop where
 r : HR w g1 g2 X gd gm r c1 c2 c3 V
 box : Blk V b 30 c
 hx : HX 20001 X c V
theorem HQ.below {w V V' : World} {g1 g2 X gd gm r b : Nat} {c1 c2 c3 c : Array Value} (h : HQ w g1 g2 X gd gm r b c1 c2 c3 c V) (hb : Below V.heap.size V V') : HQ w g1 g2 X gd gm r b c1 c2 c3 c V' := ⟨h.r.below hb, h.box.below hb h.box.lt, h.hx.below hb⟩
structure HT (w : World) (g1 g2 X gd gm r : Nat) (c1 c2 c3 : Array Value) (V : World) : Prop where
 j : HJ w g1 g2 X gd c1 c2 c3 V
 many : HS 20001 (some ⟨gm, 0, none⟩) 1 1 V
 row : Blk V r 33 #[.slice (some ⟨gd, 0, none⟩) 1 1, .slice (some ⟨gm, 0, none⟩) 1 1]
theorem HT.below {w V V' : World} {g1 g2 X gd gm r : Nat} {c1 c2 c3 : Array Value} (h : HT w g1 g2 X gd gm r c1 c2 c3 V) (hb : Below V.heap.size V V') : HT w g1 g2 X gd gm r c1 c2 c3 V' := ⟨h.j.below hb, h.many.below hb, h.row.below hb h.row.lt⟩
theorem HT.at {w V : World} {g1 g2 X gd gm r : Nat} {c1 c2 c3 : Array Value} (h : HT w g1 g2 X gd gm r c1 c2 c3 V) {j : Nat} (hj : j < 2) : ∃ g, V.cell? ⟨r, j, none⟩ = some (.slice (some ⟨g, 0, none⟩) 1 1) ∧ HS 20001 (some ⟨g, 0, none⟩) 1 1 V := by
 match j, hj with
 | 0, _ => exact ⟨gd, by rw [h.row.cell]; rfl, h.j.deep⟩
 | 1, _ => exact ⟨gm, by rw [h.row.cell]; rfl, h.many⟩
def nthS : Nat → Code → Code
 | 0, c => c
 | n + 1, .seq _ c => nthS n c
 | _ + 1, c => c
def hdS : Code → Code
 | .seq a _ => a
 | c => c
noncomputable def rS (n : Nat) : Code := nthS n (Tryz.f3.body.getD .skip)
set_option maxRecDepth 100000 in
def frS (f : Nat → Value) : Array Value := List.toArray (f 0 :: f 1 :: f 2 :: f 3 :: f 4 :: f 5 :: f 6 :: f 7 :: f 8 :: f 9 :: f 10 :: f 11 :: f 12 :: f 13 :: f 14 :: f 15 :: f 16 :: f 17 :: f 18 :: f 19 :: f 20 :: f 21 :: f 22 :: f 23 :: f 24 :: f 25 :: f 26 :: f 27 :: f 28 :: f 29 :: f 30 :: f 31 :: f 32 :: f 33 :: f 34 :: f 35 :: f 36 :: f 37 :: f 38 :: f 39 :: f 40 :: f 41 :: f 42 :: f 43 :: f 44 :: f 45 :: f 46 :: f 47 :: f 48 :: f 49 :: f 50 :: f 51 :: f 52 :: f 53 :: f 54 :: f 55 :: f 56 :: f 57 :: f 58 :: f 59 :: f 60 :: f 61 :: f 62 :: f 63 :: f 64 :: f 65 :: f 66 :: f 67 :: f 68 :: f 69 :: f 70 :: f 71 :: f 72 :: f 73 :: f 74 :: f 75 :: f 76 :: f 77 :: f 78 :: f 79 :: f 80 :: f 81 :: f 82 :: f 83 :: f 84 :: f 85 :: f 86 :: f 87 :: f 88 :: f 89 :: f 90 :: f 91 :: f 92 :: f 93 :: f 94 :: f 95 :: f 96 :: f 97 :: f 98 :: f 99 :: f 100 :: f 101 :: f 102 :: f 103 :: f 104 :: f 105 :: f 106 :: f 107 :: f 108 :: f 109 :: f 110 :: f 111 :: f 112 :: f 113 :: f 114 :: f 115 :: f 116 :: f 117 :: f 118 :: f 119 :: f 120 :: f 121 :: f 122 :: f 123 :: f 124 :: f 125 :: f 126 :: f 127 :: f 128 :: f 129 :: f 130 :: f 131 :: f 132 :: f 133 :: f 134 :: f 135 :: f 136 :: f 137 :: f 138 :: f 139 :: f 140 :: f 141 :: f 142 :: f 143 :: f 144 :: f 145 :: f 146 :: f 147 :: f 148 :: f 149 :: f 150 :: f 151 :: f 152 :: f 153 :: f 154 :: f 155 :: f 156 :: f 157 :: f 158 :: f 159 :: f 160 :: f 161 :: f 162 :: f 163 :: f 164 :: f 165 :: f 166 :: f 167 :: f 168 :: f 169 :: f 170 :: f 171 :: f 172 :: f 173 :: f 174 :: f 175 :: f 176 :: f 177 :: f 178 :: f 179 :: f 180 :: f 181 :: f 182 :: f 183 :: f 184 :: f 185 :: f 186 :: f 187 :: f 188 :: f 189 :: f 190 :: f 191 :: f 192 :: f 193 :: f 194 :: f 195 :: f 196 :: f 197 :: f 198 :: f 199 :: f 200 :: f 201 :: f 202 :: f 203 :: f 204 :: f 205 :: f 206 :: f 207 :: f 208 :: f 209 :: f 210 :: f 211 :: f 212 :: f 213 :: f 214 :: f 215 :: f 216 :: f 217 :: f 218 :: f 219 :: f 220 :: f 221 :: f 222 :: f 223 :: f 224 :: f 225 :: f 226 :: f 227 :: f 228 :: f 229 :: f 230 :: f 231 :: f 232 :: f 233 :: f 234 :: f 235 :: f 236 :: f 237 :: f 238 :: f 239 :: f 240 :: f 241 :: f 242 :: f 243 :: f 244 :: f 245 :: f 246 :: f 247 :: f 248 :: f 249 :: f 250 :: f 251 :: f 252 :: f 253 :: f 254 :: f 255 :: f 256 :: f 257 :: f 258 :: f 259 :: f 260 :: f 261 :: f 262 :: f 263 :: f 264 :: [])
set_option maxRecDepth 100000 in
theorem frS_eq (f : Nat → Value) : frS f = ((List.range 265).map f).toArray := by kernel_rfl
theorem frS_of (T : Array Value) (h : T.size = 265) : ∃ f : Nat → Value, T = frS f ∧ ∀ i, T.getD i undef = f i := by
 refine ⟨fun i => T.getD i undef, ?_, fun _ => rfl⟩
 rw [frS_eq]
 apply Array.ext
 ·simp [h]
 ·intro i h1 h2
  simp [Array.getD, h1]
abbrev QS (w : World) : Exit → Act → World → Prop := bodyPost Tryz.prog Tryz.f3 fun r w' => r = .returned (.bool true) ∧ Below w.heap.size w w'
theorem pv_ok {W : World} {g : Nat} {Z : Array Value} (h : Blk W g 60 Z) (hZ : Z.toList = (List.replicate 19997 zD).flatMap Dc.cells) :
  (∃ p : Pg Loc, .agg (pC (.slice none 0 0) (.slice (some ⟨g, 0, none⟩) 19997 19997) (.slice none 0 0)) = aggP p ∧ p.ok eT W ∧ p.Slim ∧ p.sz = 20000) ∧
  ∀ (g' : Nat), Blk W g' 60 #[.string ⟨#[]⟩, .int .i64 0, .int .i64 0] → ∃ p : Pg Loc, .agg (pC (.slice (some ⟨g', 0, none⟩) 1 1) (.slice (some ⟨g, 0, none⟩) 19997 19997) (.slice none 0 0)) = aggP p ∧ p.ok eT W ∧ p.Slim ∧ p.sz = 20001 := by
 have h0 : RowIn W 3 (⟨none, 0⟩ : Loc) 0 [] := nilR 3 W
 have hl : (List.replicate 19997 zD).length = 19997 := List.length_replicate
 have hs : Z.size = 19997 * 3 := by
  rw [← Array.length_toList, hZ]
  have := cellsD_len (List.replicate 19997 zD)
  rw [hl] at this
  exact this
 have hr := row_blk (sz := 3) h hs (by omega)
 rw [hZ] at hr
 have hr' : RowIn W 3 ⟨some ⟨g, 0, none⟩, 19997⟩ (List.replicate 19997 zD).length (cellsD (List.replicate 19997 zD)) := by rw [hl]; exact hr
 have hL : Lst.ok eT W ⟨none, 0⟩ [] := ⟨nilR 6 W, trivial⟩
 have ht : Thin ([] : List (St Loc)) := fun x hx => by cases hx
 refine ⟨⟨pgV ⟨none, 0⟩ [] ⟨some ⟨g, 0, none⟩, 19997⟩ (List.replicate 19997 zD) ⟨none, 0⟩ [], ?_, pgV_ok h0 hr' hL, pgV_slim (Nat.zero_le _) (by rw [hl]; omega) ht, by rw [pgV_sz, hl]; rfl⟩, fun g' h' => ⟨pgV ⟨some ⟨g', 0, none⟩, 1⟩ [zD] ⟨some ⟨g, 0, none⟩, 19997⟩ (List.replicate 19997 zD) ⟨none, 0⟩ [], ?_, pgV_ok ?_ hr' hL, pgV_slim (by decide) (by rw [hl]; omega) ht, by rw [pgV_sz, hl]; rfl⟩⟩
 ·simp only [aggP, Pg.cells, pgV, hl]
  rfl
 ·simp only [aggP, Pg.cells, pgV, hl]
  rfl
 ·exact row_blk (sz := 3) (k := 1) h' rfl (by decide)
structure HV (w W : World) (g b : Nat) (Z cs : Array Value) (V : World) : Prop where
 low : Below w.heap.size w V
 up : Below W.heap.size W V
 z : Blk V g 60 Z
 box : Blk V b 35 cs
 ne : g < b ∧ W.heap.size ≤ b ∧ w.heap.size ≤ W.heap.size
theorem HV.below {w W V V' : World} {g b : Nat} {Z cs : Array Value} (h : HV w W g b Z cs V) (hb : Below V.heap.size V V') : HV w W g b Z cs V' := ⟨below_and h.low hb, below_and h.up hb, h.z.below hb h.z.lt, h.box.below hb h.box.lt, h.ne⟩
theorem HV.put {w W V : World} {g b : Nat} {Z cs : Array Value} (h : HV w W g b Z cs V) (hc : cs = pC (.slice none 0 0) (.slice (some ⟨g, 0, none⟩) 19997 19997) (.slice none 0 0)) :
  HV w W g b Z (pC (.slice (some ⟨V.heap.size, 0, none⟩) 1 1) (.slice (some ⟨g, 0, none⟩) 19997 19997) (.slice none 0 0)) ((V.alloc (.cells #[.string ⟨#[]⟩, .int .i64 0, .int .i64 0] 60)).setCell ⟨b, 2, none⟩ (.slice (some ⟨V.heap.size, 0, none⟩) 1 1)) ∧
  Blk ((V.alloc (.cells #[.string ⟨#[]⟩, .int .i64 0, .int .i64 0] 60)).setCell ⟨b, 2, none⟩ (.slice (some ⟨V.heap.size, 0, none⟩) 1 1)) V.heap.size 60 #[.string ⟨#[]⟩, .int .i64 0, .int .i64 0] := by
 have h' := h.below (new_below V (.cells #[.string ⟨#[]⟩, .int .i64 0, .int .i64 0] 60))
 have hn := h.ne
 have hl := h.box.lt
 have hb := h'.box.set_ 2 (.slice (some ⟨V.heap.size, 0, none⟩) 1 1)
 rw [show cs.setIfInBounds 2 (.slice (some ⟨V.heap.size, 0, none⟩) 1 1) = pC (.slice (some ⟨V.heap.size, 0, none⟩) 1 1) (.slice (some ⟨g, 0, none⟩) 19997 19997) (.slice none 0 0) from by rw [hc]; rfl] at hb
 exact ⟨⟨h'.low.setCell (by show w.heap.size ≤ b; omega) _, h'.up.setCell (by show W.heap.size ≤ b; omega) _, h'.z.far (by show g ≠ b; omega) _, hb, hn⟩, (Blk.new V _ _).far (by show V.heap.size ≠ b; omega) _⟩
theorem HV.light {w W V : World} {g b : Nat} {Z cs : Array Value} (h : HV w W g b Z cs V) (hZ : Z.toList = (List.replicate 19997 zD).flatMap Dc.cells) (hc : cs = pC (.slice none 0 0) (.slice (some ⟨g, 0, none⟩) 19997 19997) (.slice none 0 0)) :
  (Calls Tryz.prog 20 #[.agg cs] V fun r V' => r = .returned (.bool true) ∧ Below V.heap.size V V') ∧ Calls Tryz.prog 21 #[.agg cs] V fun r V' => r = .returned (.int .i64 20000) ∧ Below V.heap.size V V' := by
 obtain ⟨p, e, h1, h2, h3⟩ := (pv_ok h.z hZ).1
 rw [hc, e]
 have := lightP_ok p V h1 h2
 rw [decide_eq_true (by omega)] at this
 exact ⟨this, sizeP_ok p V h1 h2 20000 (by rw [if_pos (by omega), h3])⟩
theorem HV.dark {w W V : World} {g b g' : Nat} {Z cs : Array Value} (h : HV w W g b Z cs V) (hZ : Z.toList = (List.replicate 19997 zD).flatMap Dc.cells) (hc : cs = pC (.slice (some ⟨g', 0, none⟩) 1 1) (.slice (some ⟨g, 0, none⟩) 19997 19997) (.slice none 0 0)) (h' : Blk V g' 60 #[.string ⟨#[]⟩, .int .i64 0, .int .i64 0]) :
  Calls Tryz.prog 20 #[.agg cs] V fun r V' => r = .returned (.bool false) ∧ Below V.heap.size V V' := by
 obtain ⟨p, e, h1, h2, h3⟩ := (pv_ok h.z hZ).2 g' h'
 rw [hc, e]
 have := lightP_ok p V h1 h2
 rw [decide_eq_false (by omega)] at this
 exact this
theorem HV_init {w W : World} (hB : Below w.heap.size w W) (Z : Array Value) : HV w W W.heap.size (W.alloc (.cells Z 60)).heap.size Z (pC (.slice none 0 0) (.slice (some ⟨W.heap.size, 0, none⟩) 19997 19997) (.slice none 0 0)) (boxW (W.alloc (.cells Z 60)) (pC (.slice none 0 0) (.slice (some ⟨W.heap.size, 0, none⟩) 19997 19997) (.slice none 0 0))) := by
 have h1 := new_below W (.cells Z 60)
 have h2 := boxW_below (W.alloc (.cells Z 60)) (pC (.slice none 0 0) (.slice (some ⟨W.heap.size, 0, none⟩) 19997 19997) (.slice none 0 0))
 have h3 := below_and h1 h2
 exact ⟨below_and hB h3, h3, (Blk.new W _ Z).below h2 (by simp), boxW_blk _ rfl, by simp, by simp, hB.size⟩
set_option maxRecDepth 100000 in
theorem rS13 : rS 13 = .seq (hdS (rS 13)) (.seq (hdS (rS 14)) (.seq (hdS (rS 15)) (.seq (hdS (rS 16)) (rS 17)))) := by kernel_rfl
set_option maxRecDepth 100000 in
theorem tail7 (w : World) (g2 X : Nat) (c2 : Array Value) (T : Array Value) (W : World) (hs : T.size = 265) (h11 : T.getD 11 undef = .pointer (some ⟨g2, 0, none⟩)) (hB : Below w.heap.size w W) (hb2 : Blk W g2 30 c2) (hJ : JX X c2 W) : Code.wp Tryz.prog (rS 13) (QS w) ⟨T, []⟩ W := by
 obtain ⟨f, rfl, hf⟩ := frS_of T hs
 rw [hf] at h11
 rw [rS13]
 conv => arg 2; arg 1; whnf
 conv => arg 2; arg 2; arg 1; whnf
 conv => arg 2; arg 2; arg 2; arg 1; whnf
 conv => arg 2; arg 2; arg 2; arg 2; arg 1; whnf
 conv => arg 2; arg 2; arg 2; arg 2; arg 2; whnf
 unfold frS
 rw [h11]
 clear hs hf h11
 have h6 := hJ.size
 obtain ⟨Z3, hZ3, hm3⟩ := make_zero 24 60 _ 19997 3 32 infoD rfl (by decide) (by decide) Dc.cells zD rfl rfl (by decide)
 rw [show ((19997 : Nat) : Int) = 19997 from rfl] at hm3
 have hi := HV_init (w := w) (W := W) hB Z3
 have hth := boxW_there (W.alloc (.cells Z3 60))
 unfold zP at hth
 rw [World.size_alloc] at hth
 unfold boxW zP at hi
 rw [World.size_alloc] at hi
 go_upto_region 50 with (refine wpList_store_mid rfl 35 (.tmp 20) (.tmp 243) rfl (W.heap.size + 1) 0 (pC (.slice none 0 0) (.slice (some ⟨W.heap.size, 0, none⟩) 19997 19997) (.slice none 0 0)) rfl rfl hth (by kernel_rfl) (by simp [pC, Value.oneCell']) ?_; try simp only [Act.put, List.setIfInBounds_toArray, List.set_cons_zero, List.set_cons_succ])
 generalize (World.setCells _ _ _ _) = V5 at *
 generalize W.heap.size + 1 = b at *
 generalize hg : W.heap.size = g at *
 obtain ⟨cs, hcs⟩ : ∃ c, c = pC (.slice none 0 0) (.slice (some ⟨g, 0, none⟩) 19997 19997) (.slice none 0 0) := ⟨_, rfl⟩
 rw [← hcs] at hi
 have hsz : cs.size = 22 := by rw [hcs]; rfl
 have hbx := hi.box
 replace hi := Lib.hid hi
 replace hcs := Lib.hid hcs
 replace hZ3 := Lib.hid hZ3
 replace hg := Lib.hid hg
 clear hth hm3 hB
 go_upto_region 52 with (first
  | (refine wpList_load_rowW 35 (.tmp 20) rfl (by rfl) b rfl 35 cs (0, 0) _ hbx Tryz.underlying35 rfl (by rw [hsz]; kernel_rfl) ?_; simp only [Act.put, List.setIfInBounds_toArray, List.set_cons_zero, List.set_cons_succ])
  | (go_at_call 20; with_reducible refine (hi.out.light hZ3.out hcs.out).1.mono ?_; rintro _ U ⟨rfl, hb⟩; replace hi := Lib.hid (hi.out.below hb); have hbx := hi.out.box; clear hb)
  | (go_at_call 21; with_reducible refine (hi.out.light hZ3.out hcs.out).2.mono ?_; rintro _ U ⟨rfl, hb⟩; replace hi := Lib.hid (hi.out.below hb); have hbx := hi.out.box; clear hb))
 obtain ⟨Z4, hZ4, hm4⟩ := make_zero 24 60 _ 1 3 32 infoD rfl (by decide) (by decide) Dc.cells zD rfl rfl (by decide)
 rw [show ((1 : Nat) : Int) = 1 from rfl] at hm4
 obtain rfl : Z4 = #[.string ⟨#[]⟩, .int .i64 0, .int .i64 0] := Array.toList_inj.1 (by rw [hZ4]; rfl)
 have hp := hi.out.put hcs.out
 rename World => U
 have hx := hbx.alloc (.cells #[.string ⟨#[]⟩, .int .i64 0, .int .i64 0] 60)
 have q2 := hx.cell 2
 rw [hcs.out] at q2
 simp only [pC, List.getElem?_toArray, List.getElem?_cons_zero, List.getElem?_cons_succ] at q2
 have f0 := hx.frozen
 have l0 := hx.lt
 replace hp := Lib.hid hp
 clear hi hx hZ4
 go_upto_region 53 with (fail)
 generalize World.setCell _ _ _ = V9 at *
 generalize U.heap.size = g' at *
 obtain ⟨cs', hcs'⟩ : ∃ c, c = pC (.slice (some ⟨g', 0, none⟩) 1 1) (.slice (some ⟨g, 0, none⟩) 19997 19997) (.slice none 0 0) := ⟨_, rfl⟩
 rw [← hcs'] at hp
 have hsz' : cs'.size = 22 := by rw [hcs']; rfl
 obtain ⟨hi, hd⟩ := hp.out
 have hby := hi.box
 have hcall := hi.dark hZ3.out hcs' hd
 have hj := fun V (h : HV w W g b Z3 cs' V) => And.intro (jx_size (hJ.below h.up)) (hb2.below h.up hb2.lt)
 replace hj := Lib.hid hj
 replace hi := Lib.hid hi
 replace hcall := Lib.hid hcall
 clear hp hd hcs' q2 f0 l0 hbx hm4 hJ
 go_wp2_with (first
  | (refine wpList_load_rowW 35 (.tmp 20) rfl (by rfl) b rfl 35 cs' (0, 0) _ hby Tryz.underlying35 rfl (by rw [hsz']; kernel_rfl) ?_; simp only [Act.put, List.setIfInBounds_toArray, List.set_cons_zero, List.set_cons_succ])
  | (go_at_call 20; with_reducible refine hcall.out.mono ?_; rintro _ V1 ⟨rfl, hb⟩; replace hi := Lib.hid (hi.out.below hb); have hbz := (hj.out _ hi.out).2; clear hb hcall hby)
  | (refine wpList_load_rowW 30 (.tmp 11) rfl (by rfl) g2 rfl 30 c2 (0, 0) _ hbz Tryz.underlying30 rfl (by rw [h6]; kernel_rfl) ?_; simp only [Act.put, List.setIfInBounds_toArray, List.set_cons_zero, List.set_cons_succ])
  | (go_at_call 9; with_reducible refine (hj.out _ hi.out).1.mono ?_; rintro _ V1 ⟨rfl, hb⟩; replace hi := Lib.hid (hi.out.below hb); clear hb hbz)
  | (go_at_call 24; refine (awake_ok _).mono ?_; rintro _ V1 ⟨rfl, hb⟩; replace hi := Lib.hid (hi.out.below hb); clear hb))
 go_ret
 exact ⟨rfl, hi.out.low⟩
structure HU (w : World) (g1 g2 X gd gm r b q : Nat) (c1 c2 c3 cs : Array Value) (V : World) : Prop where
 t : HT w g1 g2 X gd gm r c1 c2 c3 V
 hs : HS 20001 (some ⟨q, 0, none⟩) 1 1 V
 box : Blk V b 35 cs
 hp : HP cs V
theorem HU.below {w V V' : World} {g1 g2 X gd gm r b q : Nat} {c1 c2 c3 cs : Array Value} (h : HU w g1 g2 X gd gm r b q c1 c2 c3 cs V) (hb : Below V.heap.size V V') : HU w g1 g2 X gd gm r b q c1 c2 c3 cs V' := ⟨h.t.below hb, h.hs.below hb, h.box.below hb h.box.lt, h.hp.below hb⟩
set_option maxRecDepth 100000 in
theorem rS12 : rS 12 = .seq (hdS (rS 12)) (rS 13) := by kernel_rfl
set_option maxRecDepth 100000 in
theorem tail6 (w : World) (g1 g2 X gd gm : Nat) (c1 c2 c3 : Array Value) (T : Array Value) (W : World) (hs : T.size = 265) (h11 : T.getD 11 undef = .pointer (some ⟨g2, 0, none⟩)) (h13 : T.getD 13 undef = .slice (some ⟨gd, 0, none⟩) 1 1) (h14 : T.getD 14 undef = .slice (some ⟨gm, 0, none⟩) 1 1)
  (hJ : HJ w g1 g2 X gd c1 c2 c3 W) (hm : HS 20001 (some ⟨gm, 0, none⟩) 1 1 W) : Code.wp Tryz.prog (rS 12) (QS w) ⟨T, []⟩ W := by
 obtain ⟨f, rfl, hf⟩ := frS_of T hs
 rw [hf] at h11 h13 h14
 rw [rS12]
 conv => arg 2; arg 1; whnf
 unfold frS
 rw [h11, h13, h14]
 clear hs hf h11 h13 h14
 have hT : HT w g1 g2 X gd gm W.heap.size c1 c2 c3 (W.alloc (.cells #[.slice (some ⟨gd, 0, none⟩) 1 1, .slice (some ⟨gm, 0, none⟩) 1 1] 33)) := ⟨hJ.below (new_below W _), hm.below (new_below W _), blk_new _ rfl⟩
 replace hT := Lib.hid hT
 clear hJ hm
 go_wp2_with fail
 generalize World.alloc W _ = W7 at *
 generalize W.heap.size = r2 at *
 go_loopw [183] (fun v183 ws => ∃ j : Nat, v183 = .int .i64 j ∧ j ≤ 2 ∧ HT w g1 g2 X gd gm r2 c1 c2 c3 ws) (fun v183 _ => 2 - (intOf v183).toNat)
 case atStart => exact ⟨0, rfl, Nat.zero_le _, hT.out⟩
 case round =>
  clear hT
  obtain ⟨j, rfl, hj, hT⟩ := hrel
  have j0 : 0 ≤ (j : Int) := by omega
  by_cases hjt : j < 2
  ·have j1 : (j : Int) < 2 := by omega
   obtain ⟨q, hq, hqs⟩ := hT.at hjt
   have hth := boxW_there wr
   unfold zP at hth
   have hbb := boxW_below wr (pC (.slice none 0 0) (.slice none 0 0) (.slice (some ⟨q, 0, none⟩) 1 1))
   have hU : HU w g1 g2 X gd gm r2 wr.heap.size q c1 c2 c3 _ _ := ⟨hT.below hbb, hqs.below hbb, boxW_blk wr (cs := pC (.slice none 0 0) (.slice none 0 0) (.slice (some ⟨q, 0, none⟩) 1 1)) rfl, _, _, _, rfl, hqs.below hbb⟩
   unfold boxW zP at hU
   replace hU := Lib.hid hU
   clear hT hqs hbb
   go_upto_region 46 with (refine wpList_store_mid rfl 35 (.tmp 19) (.tmp 188) rfl wr.heap.size 0 (pC (.slice none 0 0) (.slice none 0 0) (.slice (some ⟨q, 0, none⟩) 1 1)) rfl rfl hth (by kernel_rfl) (by simp [pC, Value.oneCell']) ?_; try simp only [Act.put, List.setIfInBounds_toArray, List.set_cons_zero, List.set_cons_succ])
   generalize (World.setCells _ _ _ _) = V7 at *
   generalize wr.heap.size = b at *
   obtain ⟨cs, hcs⟩ : ∃ c, c = pC (.slice none 0 0) (.slice none 0 0) (.slice (some ⟨q, 0, none⟩) 1 1) := ⟨_, rfl⟩
   rw [← hcs] at hU
   have hsz := hU.out.hp.size
   have hbx := hU.out.box
   have hfl : ∀ w, Sem.run Tryz.prog (Instr.field 35 (.agg zP) 9) w = .ok (.slice none 0 0) w := fun w => by kernel_rfl
   clear hth hcs hq
   go_wp2_with (first
    | (refine wpList_load_rowW 35 (.tmp 19) rfl (by rfl) b rfl 35 cs (0, 0) _ hbx Tryz.underlying35 rfl (by rw [hsz]; kernel_rfl) ?_; simp only [Act.put, List.setIfInBounds_toArray, List.set_cons_zero, List.set_cons_succ])
    | (go_at_call 14; with_reducible refine (hs_size hU.out.hs).mono ?_; rintro _ U ⟨rfl, hb⟩; replace hU := Lib.hid (hU.out.below hb); have hbx := hU.out.box; clear hb)
    | (go_at_call 15; with_reducible refine (hs_same hU.out.hs).mono ?_; rintro _ U ⟨rfl, hb⟩; replace hU := Lib.hid (hU.out.below hb); have hbx := hU.out.box; clear hb)
    | (go_at_call 16; with_reducible refine (hs_copy hU.out.hs).mono ?_; rintro _ U ⟨rfl, hb⟩; replace hU := Lib.hid (hU.out.below hb); have hbx := hU.out.box; clear hb)
    | (go_at_call 17; with_reducible refine (hs_ren _ _ hU.out.hs).mono ?_; rintro _ U ⟨rfl, hb⟩; replace hU := Lib.hid (hU.out.below hb); have hbx := hU.out.box; clear hb)
    | (go_at_call 18; with_reducible refine (hs_calls hU.out.hs).mono ?_; rintro _ U ⟨rfl, hb⟩; replace hU := Lib.hid (hU.out.below hb); have hbx := hU.out.box; clear hb)
    | (go_at_call 19; with_reducible refine (hs_depth hU.out.hs).mono ?_; rintro _ U ⟨rfl, hb⟩; replace hU := Lib.hid (hU.out.below hb); have hbx := hU.out.box; clear hb)
    | (go_at_call 20; with_reducible refine (hp_light hU.out.hp).mono ?_; rintro _ U ⟨rfl, hb⟩; replace hU := Lib.hid (hU.out.below hb); have hbx := hU.out.box; clear hb)
    | (go_at_call 21; with_reducible refine (hp_size hU.out.hp).mono ?_; rintro _ U ⟨rfl, hb⟩; replace hU := Lib.hid (hU.out.below hb); have hbx := hU.out.box; clear hb)
    | (go_at_call 22; with_reducible refine (hp_same hU.out.hp).mono ?_; rintro _ U ⟨rfl, hb⟩; replace hU := Lib.hid (hU.out.below hb); have hbx := hU.out.box; clear hb)
    | (go_at_call 23; with_reducible refine (hp_copy hU.out.hp).mono ?_; rintro _ U ⟨rfl, hb⟩; replace hU := Lib.hid (hU.out.below hb); have hbx := hU.out.box; clear hb))
   go_roundw
   case rel => exact ⟨j + 1, by go_num, by omega, hU.out.t⟩
   case measure => simp [intOf]; omega
  ·obtain rfl : j = 2 := by omega
   rw [show ((2 : Nat) : Int) = 2 from rfl]
   replace hT := Lib.hid hT
   go_wp2_with fail
   exact tail7 w g2 X c2 _ _ rfl rfl hT.out.j.hi.low hT.out.j.hi.b2 hT.out.j.hi.h2
set_option maxRecDepth 100000 in
theorem rS11 : rS 11 = .seq (hdS (rS 11)) (rS 12) := by kernel_rfl
set_option maxRecDepth 100000 in
theorem tail5 (w : World) (g1 g2 X gd g : Nat) (c1 c2 c3 : Array Value) (T : Array Value) (wr : World) (hs : T.size = 265) (h10 : T.getD 10 undef = .pointer (some ⟨g1, 0, none⟩)) (h11 : T.getD 11 undef = .pointer (some ⟨g2, 0, none⟩)) (h12 : T.getD 12 undef = .pointer (some ⟨X, 0, none⟩)) (h13 : T.getD 13 undef = .slice (some ⟨gd, 0, none⟩) 1 1) (h14 : T.getD 14 undef = .slice (some ⟨g, 0, none⟩) 1 1)
  (hJ : HJ w g1 g2 X gd c1 c2 c3 wr) (hS : HS 20001 (some ⟨g, 0, none⟩) 1 1 wr) : Code.wp Tryz.prog (rS 11) (QS w) ⟨T, []⟩ wr := by
 obtain ⟨f, rfl, hf⟩ := frS_of T hs
 rw [hf] at h10 h11 h12 h13 h14
 rw [rS11]
 conv => arg 2; arg 1; whnf
 unfold frS
 rw [h10, h11, h12, h13, h14]
 clear hs hf h10 h11 h12 h13 h14
 have hb1 := hJ.hi.b1
 have hb3 := hJ.hi.b3
 have hR : HR w g1 g2 X gd g wr.heap.size c1 c2 c3 (wr.alloc (.cells (c1 ++ c3) 30)) := ⟨hJ.below (new_below wr _), hS.below (new_below wr _), blk_new _ rfl⟩
 obtain ⟨y0, y1, y2, y3, y4, y5, hc1⟩ := six hJ.hi.h1.size
 obtain ⟨x0, x1, x2, x3, x4, x5, hc3⟩ := six hJ.hi.h3.size
 rw [show c1 ++ c3 = #[y0, y1, y2, y3, y4, y5, x0, x1, x2, x3, x4, x5] from by rw [hc1, hc3]; rfl] at hR
 rw [hc1] at hb1
 rw [hc3] at hb3
 replace hR := Lib.hid hR
 clear hJ hS hc1 hc3
 go_wp2_with (first
  | (refine wpList_load_rowW 30 (.tmp 10) rfl (by rfl) g1 rfl 30 #[y0, y1, y2, y3, y4, y5] (0, 0) _ hb1 Tryz.underlying30 rfl (by kernel_rfl) ?_; simp only [Act.put, List.setIfInBounds_toArray, List.set_cons_zero, List.set_cons_succ])
  | (refine wpList_load_rowW 30 (.tmp 12) rfl (by rfl) X rfl 30 #[x0, x1, x2, x3, x4, x5] (0, 0) _ hb3 Tryz.underlying30 rfl (by kernel_rfl) ?_; simp only [Act.put, List.setIfInBounds_toArray, List.set_cons_zero, List.set_cons_succ]))
 generalize World.alloc wr _ = W6 at *
 generalize wr.heap.size = r at *
 clear hb1 hb3
 go_loopw [146] (fun v146 ws => ∃ j : Nat, v146 = .int .i64 j ∧ j ≤ 2 ∧ HR w g1 g2 X gd g r c1 c2 c3 ws) (fun v146 _ => 2 - (intOf v146).toNat)
 case atStart => exact ⟨0, rfl, Nat.zero_le _, hR.out⟩
 case round =>
  clear hR
  rename World => wr
  obtain ⟨j, rfl, hj, hR⟩ := hrel
  have j0 : 0 ≤ (j : Int) := by omega
  by_cases hjt : j < 2
  ·have j1 : (j : Int) < 2 := by omega
   obtain ⟨e, he6, heo, hec, hex⟩ := hR.at hjt
   have hel : e.toList.length = 6 := by rw [Array.length_toList, he6]
   have hth := boxX_there wr
   unfold zE at hth
   have hQ := fun h => (⟨hR.below (boxX_below wr e), boxX_blk wr h, hex.below (boxX_below wr e)⟩ : HQ w g1 g2 X gd g r wr.heap.size c1 c2 c3 e (boxX wr e))
   unfold boxX zE at hQ
   replace hQ := Lib.hid (hQ he6)
   clear hR hex
   go_upto_region 39 with (first
    | (refine wpList_load_at 30 (.tmp 148) rfl (by rfl) _ rfl e.toList _ hec Tryz.underlying30 rfl (by rw [hel]; kernel_rfl) ?_; rw [Array.toArray_toList]; simp only [Act.put, List.setIfInBounds_toArray, List.set_cons_zero, List.set_cons_succ])
    | (refine wpList_store_mid rfl 30 (.tmp 16) (.tmp 149) rfl wr.heap.size 0 e rfl rfl (by rw [he6]; exact hth) (by rw [he6]; kernel_rfl) heo ?_))
   generalize (World.setCells _ _ _ _) = V7 at *
   generalize wr.heap.size = b at *
   have hbx := hQ.out.box
   have hfl : ∀ w, Sem.run Tryz.prog (Instr.field 30 (.agg #[.int .u8 0, .int .u8 0, .int .u32 0, .int .i64 0, .string ⟨#[]⟩, .slice none 0 0]) 5) w = .ok (.slice none 0 0) w := fun w => by kernel_rfl
   clear hth hec
   go_wp2_with (first
    | (refine wpList_load_rowW 30 (.tmp 16) rfl (by rfl) b rfl 30 e (0, 0) _ hbx Tryz.underlying30 rfl (by rw [he6]; kernel_rfl) ?_; simp only [Act.put, List.setIfInBounds_toArray, List.set_cons_zero, List.set_cons_succ])
    | (go_at_call 9; with_reducible refine (hx_size hQ.out.hx).mono ?_; rintro _ U ⟨rfl, hb⟩; replace hQ := Lib.hid (hQ.out.below hb); have hbx := hQ.out.box; clear hb)
    | (go_at_call 10; with_reducible refine (hx_same hQ.out.hx).mono ?_; rintro _ U ⟨rfl, hb⟩; replace hQ := Lib.hid (hQ.out.below hb); have hbx := hQ.out.box; clear hb)
    | (go_at_call 11; with_reducible refine (hx_names hQ.out.hx).mono ?_; rintro _ U ⟨rfl, hb⟩; replace hQ := Lib.hid (hQ.out.below hb); have hbx := hQ.out.box; clear hb)
    | (go_at_call 12; with_reducible refine (hx_copy hQ.out.hx).mono ?_; rintro _ U ⟨rfl, hb⟩; replace hQ := Lib.hid (hQ.out.below hb); have hbx := hQ.out.box; clear hb)
    | (go_at_call 13; with_reducible refine (hx_ren _ _ hQ.out.hx).mono ?_; rintro _ U ⟨rfl, hb⟩; replace hQ := Lib.hid (hQ.out.below hb); have hbx := hQ.out.box; clear hb))
   go_roundw
   case rel => exact ⟨j + 1, by go_num, by omega, hQ.out.r⟩
   case measure => simp [intOf]; omega
  ·obtain rfl : j = 2 := by omega
   rw [show ((2 : Nat) : Int) = 2 from rfl]
   replace hR := Lib.hid hR
   go_wp2_with fail
   exact tail6 w g1 g2 X gd g c1 c2 c3 _ _ rfl rfl rfl rfl hR.out.j hR.out.many
set_option maxRecDepth 100000 in
theorem rS8 : rS 8 = .seq (hdS (rS 8)) (.seq (hdS (rS 9)) (.seq (hdS (rS 10)) (rS 11))) := by kernel_rfl
set_option maxRecDepth 100000 in
theorem tail4 (w : World) (g1 g2 X : Nat) (c1 c2 c3 : Array Value) (T : Array Value) (wr : World) (hs : T.size = 265) (h10 : T.getD 10 undef = .pointer (some ⟨g1, 0, none⟩)) (h11 : T.getD 11 undef = .pointer (some ⟨g2, 0, none⟩)) (h12 : T.getD 12 undef = .pointer (some ⟨X, 0, none⟩))
  (hI : HI w g1 g2 X 20001 c1 c2 c3 wr) : Code.wp Tryz.prog (rS 8) (QS w) ⟨T, []⟩ wr := by
 obtain ⟨f, rfl, hf⟩ := frS_of T hs
 rw [hf] at h10 h11 h12
 rw [rS8]
 conv => arg 2; arg 1; whnf
 conv => arg 2; arg 2; arg 1; whnf
 conv => arg 2; arg 2; arg 2; arg 1; whnf
 unfold frS
 rw [h10, h11, h12]
 clear hs hf h10 h11 h12
 have hJ := dW_ok hI
 have hb3 := hI.b3
 obtain ⟨x0, x1, x2, x3, x4, x5, rfl⟩ := six hI.h3.size
 unfold dW at hJ
 replace hJ := Lib.hid hJ
 clear hI
 go_upto_region 32 with (refine wpList_load_rowW 30 (.tmp 12) rfl (by rfl) X rfl 30 #[x0, x1, x2, x3, x4, x5] (0, 0) _ hb3 Tryz.underlying30 rfl (by kernel_rfl) ?_; simp only [Act.put, List.setIfInBounds_toArray, List.set_cons_zero, List.set_cons_succ])
 generalize (World.alloc (World.alloc (World.alloc wr _) _) _) = W5 at *
 generalize wr.heap.size + 1 + 1 = gm at *
 generalize wr.heap.size + 1 = gd at *
 obtain ⟨c3, hc3⟩ : ∃ c : Array Value, c = #[x0, x1, x2, x3, x4, x5] := ⟨_, rfl⟩
 rw [← hc3] at hJ
 clear hb3 hc3
 go_wp2_with fail
 go_loopw [14, 135] (fun v14 v135 ws => ∃ (k n g : Nat), v135 = .int .i64 k ∧ k ≤ 60 ∧ v14 = .slice (some ⟨g, 0, none⟩) 1 1 ∧ RowKit.Hid (2 ^ k ≤ n) ∧ HS n (some ⟨g, 0, none⟩) 1 1 ws ∧ HJ w g1 g2 X gd c1 c2 c3 ws) (fun _ v135 _ => 60 - (intOf v135).toNat)
 case atStart => exact ⟨0, 1, gm, rfl, Nat.zero_le _, rfl, Lib.hid (Nat.le_refl _), hJ.out.2, hJ.out.1⟩
 case round =>
  clear hJ
  rename World => wr
  obtain ⟨k, n, g, rfl, hk, rfl, hkn, hS, hJ⟩ := hrel
  have k0 : 0 ≤ (k : Int) := by omega
  by_cases hlt : k < 60
  ·have k1 : (k : Int) < 60 := by omega
   have hb : Below wr.heap.size wr (wr.alloc (.cells #[.int .u8 6, .string ⟨#[]⟩, .slice none 0 0, .int .i64 0, .slice (some ⟨g, 0, none⟩) 1 1, .slice (some ⟨g, 0, none⟩) 1 1] 40)) := new_below wr _
   have hS' := (hS.below hb).two (blk_new _ rfl)
   replace hJ := Lib.hid (hJ.below hb)
   replace hS' := Lib.hid hS'
   clear hS hb
   go_wp2_with fail
   go_roundw
   case rel => exact ⟨k + 1, n + n, wr.heap.size, by go_num, by omega, rfl, Lib.hid (by have := hkn.out; rw [Nat.pow_succ]; omega), hS'.out, hJ.out⟩
   case measure => simp [intOf]; omega
  ·obtain rfl : k = 60 := by omega
   rw [show ((60 : Nat) : Int) = 60 from rfl]
   replace hS := Lib.hid (hS.le (k := 20001) (Nat.le_trans (Nat.le_of_ble_eq_true rfl) hkn.out))
   replace hJ := Lib.hid hJ
   clear hkn
   go_wp2_with fail
   exact tail5 w g1 g2 X gd g c1 c2 c3 _ _ rfl rfl rfl rfl rfl rfl hJ.out hS.out
set_option maxRecDepth 100000 in
theorem rS4 : rS 4 = .seq (hdS (rS 4)) (.seq (hdS (rS 5)) (.seq (hdS (rS 6)) (.seq (hdS (rS 7)) (rS 8)))) := by kernel_rfl
set_option maxRecDepth 100000 in
theorem tail3 (w : World) (T : Array Value) (wr : World) (hs : T.size = 265) (hB : Below w.heap.size w wr) : Code.wp Tryz.prog (rS 4) (QS w) ⟨T, []⟩ wr := by
 obtain ⟨f, rfl, hf⟩ := frS_of T hs
 rw [rS4]
 conv => arg 2; arg 1; whnf
 conv => arg 2; arg 2; arg 1; whnf
 conv => arg 2; arg 2; arg 2; arg 1; whnf
 conv => arg 2; arg 2; arg 2; arg 2; arg 1; whnf
 unfold frS
 clear hs hf 
 obtain ⟨Z1, hZ1, hm1⟩ := make_zero 28 30 _ 20000 6 56 infoX rfl (by decide) (by decide) (Ex.cells eT) zX rfl rfl (by decide)
 obtain ⟨Z2, hZ2, hm2⟩ := make_zero 28 30 _ 19999 6 56 infoX rfl (by decide) (by decide) (Ex.cells eT) zX rfl rfl (by decide)
 rw [show ((20000 : Nat) : Int) = 20000 from rfl] at hm1
 rw [show ((19999 : Nat) : Int) = 19999 from rfl] at hm2
 replace hZ1 := Lib.hid hZ1
 replace hZ2 := Lib.hid hZ2
 replace hB := Lib.hid hB
 have hn := fun W => name_ok ⟨#[120]⟩ W
 replace hn := Lib.hid hn
 go_upto_region 25 with (fail)
 have hH := fun V h => hi_init (V := V) hB.out hZ1.out hZ2.out h
 unfold zW at hH
 generalize (World.alloc (World.alloc (World.alloc (World.alloc wr _) _) _) _) = W4 at *
 generalize wr.heap.size = b at *
 replace hH := Lib.hid hH
 clear hm1 hm2 hZ1 hZ2 hB
 go_upto_region 26 with (go_at_call 7; with_reducible refine (hn.out _).mono ?_; rintro _ V1 ⟨rfl, hb1⟩)
 have hI := hH.out _ hb1
 generalize World.alloc V1 _ = V2 at *
 generalize V1.heap.size = X at *
 obtain ⟨c1, hc1⟩ : ∃ c : Array Value, c = #[.int .u8 7, .int .u8 0, .int .u32 0, .int .i64 0, .string ⟨#[]⟩, .slice (some ⟨b, 0, none⟩) 20000 20000] := ⟨_, rfl⟩
 obtain ⟨c2, hc2⟩ : ∃ c : Array Value, c = #[.int .u8 7, .int .u8 0, .int .u32 0, .int .i64 0, .string ⟨#[]⟩, .slice (some ⟨b + 1 + 1, 0, none⟩) 19999 19999] := ⟨_, rfl⟩
 rw [← hc1, ← hc2] at hI
 generalize b + 1 + 1 + 1 = g2 at *
 generalize b + 1 = g1 at *
 replace hI := Lib.hid hI
 clear hc1 hc2 hb1 hH hn
 go_wp2_with fail
 go_loopw [123] (fun v123 ws => ∃ (k n : Nat) (c3 : Array Value), v123 = .int .i64 k ∧ k ≤ 60 ∧ RowKit.Hid (2 ^ k ≤ n) ∧ HI w g1 g2 X n c1 c2 c3 ws) (fun v123 _ => 60 - (intOf v123).toNat)
 case atStart => exact ⟨0, 1, _, rfl, Nat.zero_le _, Lib.hid (Nat.le_refl _), hI.out⟩
 case round =>
  clear hI
  rename World => wr
  obtain ⟨k, n, c3, rfl, hk, hkn, hI⟩ := hrel
  have k0 : 0 ≤ (k : Int) := by omega
  by_cases hlt : k < 60
  ·have k1 : (k : Int) < 60 := by omega
   have h6 := hI.h3.size
   have hb3 := hI.b3
   have hcall := bin_two h6 hI.h3.one 3 wr
   have hmore := fun V' g h1 h2 h3 => hI.more (V' := V') (g := g) h1 h2 h3
   have hths := fun V' (h : Below wr.heap.size wr V') => there_blk_at (o := 0) (n := 6) (hI.b3.below h hI.b3.lt) (by omega)
   replace hcall := Lib.hid hcall
   replace hmore := Lib.hid hmore
   replace hths := Lib.hid hths
   clear hI
   go_upto_region 29 with (first
    | (refine wpList_load_rowW 30 (.tmp 12) rfl (by rfl) X rfl 30 c3 (0, 0) _ hb3 Tryz.underlying30 rfl (by rw [h6]; kernel_rfl) ?_; simp only [Act.put, List.setIfInBounds_toArray, List.set_cons_zero, List.set_cons_succ])
    | (go_at_call 8; refine hcall.out.mono ?_; rintro _ V3 ⟨g, rfl, hbl, hg, hb⟩; have hI3 := Lib.hid (hmore.out _ _ hb hg hbl); have hth := hths.out _ hb; clear hb3 hcall hbl hg hb hmore hths)
    | (refine wpList_store_mid rfl 30 (.tmp 12) (.tmp 127) rfl X 0 #[.int .u8 6, .int .u8 3, .int .u32 0, .int .i64 0, .string ⟨#[]⟩, .slice (some ⟨g, 0, none⟩) 2 2] rfl rfl hth (by kernel_rfl) (by simp [Value.oneCell']) ?_; clear hth))
   generalize (World.setCells _ _ _ _) = V4 at *
   go_wp2_with fail
   go_roundw
   case rel => exact ⟨k + 1, n + n, _, by go_num, by omega, Lib.hid (by have := hkn.out; rw [Nat.pow_succ]; omega), hI3.out⟩
   case measure => simp [intOf]; omega
  ·obtain rfl : k = 60 := by omega
   rw [show ((60 : Nat) : Int) = 60 from rfl]
   replace hI := Lib.hid (hI.le (k := 20001) (Nat.le_trans (Nat.le_of_ble_eq_true rfl) hkn.out))
   clear hkn
   go_wp2_with fail
   exact tail4 w g1 g2 X c1 c2 c3 _ _ rfl rfl rfl rfl hI.out
set_option maxRecDepth 100000 in
theorem rS3 : rS 3 = .seq (hdS (rS 3)) (rS 4) := by kernel_rfl
set_option maxRecDepth 100000 in
theorem tail2 (w : World) (T : Array Value) (wr : World) (hs : T.size = 265) (hB : Below w.heap.size w wr) : Code.wp Tryz.prog (rS 3) (QS w) ⟨T, []⟩ wr := by
 obtain ⟨f, rfl, hf⟩ := frS_of T hs
 rw [rS3]
 conv => arg 2; arg 1; whnf
 unfold frS
 clear hs hf 
 replace hB := Lib.hid hB
 go_wp2_with fail
 have hn := fun W => name_ok ⟨#[120]⟩ W
 replace hn := Lib.hid hn
 go_loopw [71] (fun v71 ws => ∃ k : Nat, v71 = .int .u8 k ∧ k ≤ 10 ∧ Below w.heap.size w ws) (fun v71 _ => 10 - (intOf v71).toNat)
 case atStart => exact ⟨0, rfl, Nat.zero_le _, hB.out⟩
 case round =>
  clear hB
  rename World => wr
  obtain ⟨k, rfl, hk, hB⟩ := hrel
  have k0 : 0 ≤ (k : Int) := by omega
  by_cases hlt : k < 10
  ·have k1 : (k : Int) < 10 := by omega
   replace hB := Lib.hid hB
   go_upto_region 20 with (go_at_call 7; with_reducible refine (hn.out _).mono ?_; rintro _ V1 ⟨rfl, hb1⟩)
   have hI := kW_ok (k : Int) (below_and hB.out hb1)
   unfold kW at hI
   generalize (World.alloc (World.alloc (World.alloc (World.alloc (World.alloc (World.alloc (World.alloc V1 _) _) _) _) _) _) _) = V2 at *
   generalize V1.heap.size = b at *
   have hS := hI.below (Below.refl V2.heap.size V2).drew
   clear hI hb1 hB
   refine wp_region_held (S := fun W => KI w k b W) (by kernel_rfl) ?_
   change wpAnyH _ _ _ _ _ _ _ _ (World.drew _)
   generalize V2.drew = U0 at *
   refine takesW [0, 1, 2, 3] (fuel := 17) (by kernel_rfl) (fun _ _ _ _ h => h) hS (by kernel_rfl) (fun K hK => ?_)
   refine TakesW.cons (by rfl) (load_rowA 30 (.tmp 8) rfl (b + 1) rfl #[.int .u8 (k : Int), .int .u8 0, .int .u32 0, .int .i64 0, .string ⟨#[120]⟩, .slice (some ⟨b, 0, none⟩) 2 2] _ (fun W h => KI.box h) Tryz.underlying30 rfl (by kernel_rfl)) ?_
   simp only [Act.put, List.setIfInBounds_toArray, List.set_cons_zero, List.set_cons_succ]
   refine TakesW.cons (by rfl) (load_rowA 30 (.tmp 8) rfl (b + 1) rfl #[.int .u8 (k : Int), .int .u8 0, .int .u32 0, .int .i64 0, .string ⟨#[120]⟩, .slice (some ⟨b, 0, none⟩) 2 2] _ (fun W h => KI.box h) Tryz.underlying30 rfl (by kernel_rfl)) ?_
   simp only [Act.put, List.setIfInBounds_toArray, List.set_cons_zero, List.set_cons_succ]
   iterate 2 (refine TakesW.cons (by rfl) (v := ?_) ?_ ?_; rotate_left; (· intro wz hSw; clear hSw; go_simp; try with_reducible rfl); simp only [Act.put, List.setIfInBounds_toArray, List.set_cons_zero, List.set_cons_succ])
   refine hK.out _ ?_
   clear hK K
   refine callH 4 rfl (by kernel_rfl) (fun K hK => ?_)
   go_simp
   refine (kind1 ⟨k0, k1⟩ hS.kd).mono ?_
   rintro _ U ⟨rfl, hb⟩
   replace hS := hS.below hb
   refine hK.out _ _ hS (fun _ => ?_)
   clear hK K hb
   refine takesW [5, 6, 7, 9, 10, 11] (fuel := 10) (by kernel_rfl) (fun _ _ _ _ h => h) hS (by kernel_rfl) (fun K hK => ?_)
   iterate 2 (refine TakesW.cons (by rfl) (v := ?_) ?_ ?_; rotate_left; (· intro wz hSw; clear hSw; go_simp; try with_reducible rfl); simp only [Act.put, List.setIfInBounds_toArray, List.set_cons_zero, List.set_cons_succ])
   refine TakesW.cons (by rfl) (load_rowA 30 (.tmp 8) rfl (b + 1) rfl #[.int .u8 (k : Int), .int .u8 0, .int .u32 0, .int .i64 0, .string ⟨#[120]⟩, .slice (some ⟨b, 0, none⟩) 2 2] _ (fun W h => KI.box h) Tryz.underlying30 rfl (by kernel_rfl)) ?_
   simp only [Act.put, List.setIfInBounds_toArray, List.set_cons_zero, List.set_cons_succ]
   iterate 3 (refine TakesW.cons (by rfl) (v := ?_) ?_ ?_; rotate_left; (· intro wz hSw; clear hSw; go_simp; try with_reducible rfl); simp only [Act.put, List.setIfInBounds_toArray, List.set_cons_zero, List.set_cons_succ])
   refine hK.out _ ?_
   clear hK K
   refine callH 8 rfl (by kernel_rfl) (fun K hK => ?_)
   go_simp
   refine (hn.out _).mono ?_
   rintro _ U ⟨rfl, hb⟩
   replace hS := hS.below hb
   refine hK.out _ _ hS (fun _ => ?_)
   clear hK K hb
   refine callH 12 rfl (by kernel_rfl) (fun K hK => ?_)
   go_simp
   refine (kind2 ⟨k0, k1⟩ hS.kd).mono ?_
   rintro _ U ⟨rfl, hb⟩
   replace hS := hS.below hb
   refine hK.out _ _ hS (fun _ => ?_)
   clear hK K hb
   refine takesW [13, 14, 15, 16, 17] (fuel := 3) (by kernel_rfl) (fun _ _ _ _ h => h) hS (by kernel_rfl) (fun K hK => ?_)
   iterate 3 (refine TakesW.cons (by rfl) (v := ?_) ?_ ?_; rotate_left; (· intro wz hSw; clear hSw; go_simp; try with_reducible rfl); simp only [Act.put, List.setIfInBounds_toArray, List.set_cons_zero, List.set_cons_succ])
   refine TakesW.cons (by rfl) (load_rowA 30 (.tmp 8) rfl (b + 1) rfl #[.int .u8 (k : Int), .int .u8 0, .int .u32 0, .int .i64 0, .string ⟨#[120]⟩, .slice (some ⟨b, 0, none⟩) 2 2] _ (fun W h => KI.box h) Tryz.underlying30 rfl (by kernel_rfl)) ?_
   simp only [Act.put, List.setIfInBounds_toArray, List.set_cons_zero, List.set_cons_succ]
   refine TakesW.cons (by rfl) (load_rowA 30 (.tmp 8) rfl (b + 1) rfl #[.int .u8 (k : Int), .int .u8 0, .int .u32 0, .int .i64 0, .string ⟨#[120]⟩, .slice (some ⟨b, 0, none⟩) 2 2] _ (fun W h => KI.box h) Tryz.underlying30 rfl (by kernel_rfl)) ?_
   simp only [Act.put, List.setIfInBounds_toArray, List.set_cons_zero, List.set_cons_succ]
   refine hK.out _ ?_
   clear hK K
   refine callH 18 rfl (by kernel_rfl) (fun K hK => ?_)
   go_simp
   refine (kind3 ⟨k0, k1⟩ hS.kd).mono ?_
   rintro _ U ⟨rfl, hb⟩
   replace hS := hS.below hb
   refine hK.out _ _ hS (fun _ => ?_)
   clear hK K hb
   refine takesW [19, 20] (fuel := 0) (by kernel_rfl) (fun _ _ _ _ h => h) hS (by kernel_rfl) (fun K hK => ?_)
   iterate 2 (refine TakesW.cons (by rfl) (v := ?_) ?_ ?_; rotate_left; (· intro wz hSw; clear hSw; go_simp; try with_reducible rfl); simp only [Act.put, List.setIfInBounds_toArray, List.set_cons_zero, List.set_cons_succ])
   refine hK.out _ ?_
   clear hK K
   refine wpAnyH_done (by kernel_rfl) ?_ _
   replace hS := Lib.hid hS.low
   go_wp2_with fail
   go_roundw
   case rel => exact ⟨k + 1, by go_num, by omega, hS.out⟩
   case measure => simp [intOf]; omega
  ·obtain rfl : k = 10 := by omega
   rw [show ((10 : Nat) : Int) = 10 from rfl]
   replace hB := Lib.hid hB
   go_wp2_with fail
   exact tail3 w _ _ rfl hB.out
set_option maxRecDepth 100000 in
theorem rS0 : rS 0 = .seq (hdS (rS 0)) (.seq (hdS (rS 1)) (.seq (hdS (rS 2)) (rS 3))) := by kernel_rfl
set_option maxRecDepth 100000 in
theorem tail1 (w : World) (T : Array Value) (hs : T.size = 265) : Code.wp Tryz.prog (rS 0) (QS w) ⟨T, []⟩ w := by
 obtain ⟨f, rfl, hf⟩ := frS_of T hs
 rw [rS0]
 conv => arg 2; arg 1; whnf
 conv => arg 2; arg 2; arg 1; whnf
 conv => arg 2; arg 2; arg 2; arg 1; whnf
 unfold frS
 clear hs hf 
 have hbe := bent_ok w
 replace hbe := Lib.hid hbe
 go_upto_region 2 with (go_at_call 4; refine hbe.out.mono ?_; rintro _ W1 ⟨⟨⟨A, c⟩, ps, rfl, hlp, hR⟩, hB1⟩)
 have hP := Pgs.of hlp hR
 dsimp only at hP ⊢
 clear hR hlp hbe
 replace hP := Lib.hid hP
 replace hB1 := Lib.hid hB1
 go_wp2_with fail
 go_loopw [24] (fun v24 wr => ∃ k : Nat, v24 = .int .i64 k ∧ k ≤ 28 ∧ Below W1.heap.size W1 wr) (fun v24 _ => 28 - (intOf v24).toNat)
 case atStart => exact ⟨0, rfl, Nat.zero_le _, Below.refl _ _⟩
 case round =>
  obtain ⟨k, rfl, hk, hB⟩ := hrel
  have k0 : 0 ≤ (k : Int) := by omega
  by_cases hlt : k < 28
  ·have k1 : (k : Int) < 28 := by omega
   have hPw := hP.out.below hB
   obtain ⟨ad, rfl⟩ : ∃ ad, A = some ad := by
    obtain ⟨ad, _, h, _⟩ := hPw.at hlt
    exact ⟨ad, h⟩
   obtain ⟨p, cs, hcs, hpl, hsz, hone, hc, hpp⟩ := hPw.one hlt
   have hth := boxW_there wr
   unfold zP at hth
   replace hB := Lib.hid hB
   replace hPw := Lib.hid hPw
   go_upto_region 5 with (first
    | (refine wpList_load_at 35 (.tmp 27) rfl (by rfl) _ rfl (p.cells eT) _ hc Tryz.underlying35 rfl (by rw [hpl.out]; kernel_rfl) ?_; rw [← hcs.out]; simp only [Act.put, List.setIfInBounds_toArray, List.set_cons_zero, List.set_cons_succ])
    | (refine wpList_store_mid rfl 35 (.tmp 3) (.tmp 28) rfl wr.heap.size 0 cs rfl rfl (by rw [hsz]; exact hth) (by rw [hsz]; kernel_rfl) hone ?_))
   have hb3 := boxW_blk wr hsz
   have hV2 := boxW_below wr cs
   unfold boxW zP at hb3 hV2
   generalize (World.setCells _ _ _ _) = V2 at *
   have hL : LP W1 ad c ps wr.heap.size p cs V2 := ⟨below_and hB.out hV2, hPw.out.below hV2, hpp.out.1.below hV2, hb3⟩
   generalize wr.heap.size = g3 at *
   replace hL := Lib.hid hL
   clear hth hc hb3 hV2 hPw hB
   go_wp2_with fail
   go_loopw [31] (fun v31 ws => ∃ j : Nat, v31 = .int .i64 j ∧ j ≤ 28 ∧ LP W1 ad c ps g3 p cs ws) (fun v31 _ => 28 - (intOf v31).toNat)
   case atStart => exact ⟨0, rfl, Nat.zero_le _, hL.out⟩
   case round =>
    clear hL
    obtain ⟨j, rfl, hj, hL⟩ := hrel
    have j0 : 0 ≤ (j : Int) := by omega
    by_cases hjt : j < 28
    ·have j1 : (j : Int) < 28 := by omega
     obtain ⟨q, cq, hcq, hql, hsq, honq, hcc, hqq⟩ := hL.all.one hjt
     have hth := boxW_there wr
     unfold zP at hth
     replace hL := Lib.hid hL
     go_upto_region 8 with (first
    | (refine wpList_load_at 35 (.tmp 33) rfl (by rfl) _ rfl (q.cells eT) _ hcc Tryz.underlying35 rfl (by rw [hql.out]; kernel_rfl) ?_; rw [← hcq.out]; simp only [Act.put, List.setIfInBounds_toArray, List.set_cons_zero, List.set_cons_succ])
    | (refine wpList_store_mid rfl 35 (.tmp 5) (.tmp 34) rfl wr.heap.size 0 cq rfl rfl (by rw [hsq]; exact hth) (by rw [hsq]; kernel_rfl) honq ?_))
     have hb5 := boxW_blk wr hsq
     have hV3 := boxW_below wr cq
     unfold boxW zP at hb5 hV3
     generalize (World.setCells _ _ _ _) = V3 at *
     have hL3 := hL.out.below hV3
     have hq3 := hqq.out.1.below hV3
     have hb3 := hL3.box
     have hcall := tells_any hL3.ok hpp.out.2.1 hpp.out.2.2 hq3 hqq.out.2.1 hqq.out.2.2
     rw [← hcs.out, ← hcq.out] at hcall
     generalize wr.heap.size = g5 at *
     replace hL3 := Lib.hid hL3
     replace hcall := Lib.hid hcall
     clear hth hcc hV3 hL hq3
     go_wp2_with (first
      | (refine wpList_load_rowW 35 (.tmp 3) rfl (by rfl) g3 rfl 35 cs (0, 0) _ hb3 Tryz.underlying35 rfl (by rw [hsz]; kernel_rfl) ?_; simp only [Act.put, List.setIfInBounds_toArray, List.set_cons_zero, List.set_cons_succ])
      | (refine wpList_load_rowW 35 (.tmp 5) rfl (by rfl) g5 rfl 35 cq (0, 0) _ hb5 Tryz.underlying35 rfl (by rw [hsq]; kernel_rfl) ?_; simp only [Act.put, List.setIfInBounds_toArray, List.set_cons_zero, List.set_cons_succ])
      | (go_at_call 5; refine hcall.out.mono ?_; rintro _ V4 ⟨rfl, hb4⟩))
     go_roundw
     case rel => exact ⟨j + 1, by go_num, by omega, hL3.out.below hb4⟩
     case measure => simp [intOf]; omega
    ·obtain rfl : j = 28 := by omega
     obtain ⟨m, hm, hm28⟩ : ∃ m : Nat, ((k : Int) + 1).tmod 28 = (m : Int) ∧ m < 28 := ⟨(k + 1) % 28, by rw [Int.tmod_eq_emod_of_nonneg (by omega)]; omega, by omega⟩
     have m0 : 0 ≤ (m : Int) := by omega
     have m1 : (m : Int) < 28 := by omega
     obtain ⟨q, cq, hcq, hql, hsq, honq, hcc, hqq⟩ := hL.all.one hm28
     have hth := boxW_there wr
     unfold zP at hth
     replace hL := Lib.hid hL
     go_upto_region 12 with (first
      | (refine wpList_load_at 35 (.tmp 46) rfl (by rfl) _ rfl (q.cells eT) _ hcc Tryz.underlying35 rfl (by rw [hql.out]; kernel_rfl) ?_; rw [← hcq.out]; simp only [Act.put, List.setIfInBounds_toArray, List.set_cons_zero, List.set_cons_succ])
      | (refine wpList_store_mid rfl 35 (.tmp 6) (.tmp 47) rfl wr.heap.size 0 cq rfl rfl (by rw [hsq]; exact hth) (by rw [hsq]; kernel_rfl) honq ?_))
     have hb6 := boxW_blk wr hsq
     have hV7 := boxW_below wr cq
     unfold boxW zP at hb6 hV7
     generalize (World.setCells _ _ _ _) = V7 at *
     have hL7 := hL.out.below hV7
     have hM7 : LP W1 ad c ps wr.heap.size q cq V7 := ⟨hL7.low, hL7.all, hqq.out.1.below hV7, hb6⟩
     generalize wr.heap.size = g6 at *
     have hc1 := parts_req ⟨#[120]⟩ ⟨#[121]⟩ (Nat.le_refl _) hL7.ok hpp.out.2.1 hpp.out.2.2 hM7.ok hqq.out.2.1 hqq.out.2.2
     have hc2 := fun V8 (h : LP W1 ad c ps g3 p cs V8) (h' : LP W1 ad c ps g6 q cq V8) => parts_inv ⟨#[120]⟩ ⟨#[120]⟩ (Nat.le_refl _) h.ok hpp.out.2.1 hpp.out.2.2 h'.ok hqq.out.2.1 hqq.out.2.2
     obtain ⟨a1, -, a2, -⟩ := hL7.at hcs
     obtain ⟨b1, -, b2, -⟩ := hM7.at hcq
     replace hL7 := Lib.hid hL7
     replace hM7 := Lib.hid hM7
     replace hc1 := Lib.hid hc1
     replace hc2 := Lib.hid hc2
     clear hth hcc hV7 hL hb6
     go_wp2_with (first
      | (refine wpList_load_at 30 (.tmp 48) rfl (by rfl) ⟨g3, 6, none⟩ rfl (p.req.cells eT) _ a1 Tryz.underlying30 rfl (by rw [Ex.cells_len]; kernel_rfl) ?_; simp only [Act.put, List.setIfInBounds_toArray, List.set_cons_zero, List.set_cons_succ])
      | (refine wpList_load_at 30 (.tmp 50) rfl (by rfl) ⟨g6, 6, none⟩ rfl (q.req.cells eT) _ b1 Tryz.underlying30 rfl (by rw [Ex.cells_len]; kernel_rfl) ?_; simp only [Act.put, List.setIfInBounds_toArray, List.set_cons_zero, List.set_cons_succ])
      | (go_at_call 6; with_reducible refine hc1.out.mono ?_; rintro _ V8 ⟨rfl, hb8⟩; have hL8 := hL7.out.below hb8; have hM8 := hM7.out.below hb8; obtain ⟨-, a3, -, a4⟩ := hL8.at hcs; obtain ⟨-, b3, -, b4⟩ := hM8.at hcq; clear hL7 hM7 hc1 a2 b2 hb8; replace hL8 := Lib.hid hL8; replace hM8 := Lib.hid hM8)
      | (refine wpList_load_at 30 (.tmp 59) rfl (by rfl) ⟨g3, 16, none⟩ rfl (p.inv.cells eT) _ a3 Tryz.underlying30 rfl (by rw [Ex.cells_len]; kernel_rfl) ?_; simp only [Act.put, List.setIfInBounds_toArray, List.set_cons_zero, List.set_cons_succ])
      | (refine wpList_load_at 30 (.tmp 61) rfl (by rfl) ⟨g6, 16, none⟩ rfl (q.inv.cells eT) _ b3 Tryz.underlying30 rfl (by rw [Ex.cells_len]; kernel_rfl) ?_; simp only [Act.put, List.setIfInBounds_toArray, List.set_cons_zero, List.set_cons_succ])
      | (go_at_call 6; with_reducible refine (hc2.out _ hL8.out hM8.out).mono ?_; rintro _ V9 ⟨rfl, hb9⟩; replace hL8 := Lib.hid (hL8.out.low.trans (hb9.mono hL8.out.low.size)); clear hM8 hc2 a4 b4))
     go_roundw
     case rel => exact ⟨k + 1, by go_num, by omega, hL8.out⟩
     case measure => simp [intOf]; omega
  ·obtain rfl : k = 28 := by omega
   rw [show ((28 : Nat) : Int) = 28 from rfl]
   replace hB := Lib.hid (below_and hB1.out hB)
   clear hB1 hP
   go_wp2_with fail
   exact tail2 w _ _ rfl hB.out
set_option maxRecDepth 100000 in
theorem small_ok (w : World) : Calls Tryz.prog 3 #[] w fun r w' => r = .returned (.bool true) ∧ Below w.heap.size w w' := by
 go_enter Tryz.func3, Tryz.ntmps3
 exact tail1 w _ rfl
end Go.Proofs.YtnldbplphgfpeaaGreat
