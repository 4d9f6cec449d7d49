/- Arenas: law 6 (what is yielded). -/
import Derived.Test.YtlcfgpkokaiogaaArT
import Derived.Test.YtlcfgpkokaiogaaNestO
import Derived.Deep.CutBlock
import Derived.Test.YtlcfgpkokaiogaaJoin2
import Derived.Sort.CutIn
namespace Go.Proofs.Ytlcfgpkokaiogaa
open Go Go.RowKit Go.Shelf
set_option linter.unusedVariables false
set_option linter.unusedSimpArgs false
set_option maxHeartbeats 4000000
attribute [local go_sem] Oper.semAt_some
theorem equal_nums (A A' : Option Addr) (n c c' : Nat) (l : List Nat) (B B' : Nat) (w : World) (h : Reads w B 1 A n (nums l)) (h' : Reads w B' 1 A' n (nums l)) (hn : n ≤ 1099511627776) :
    Calls Try.prog 28 #[.slice A n c, .slice A' n c'] w fun e w' => e = .returned (.bool true) ∧ Below w.heap.size w w' := by
  refine Calls.mono (R := fun e w' => e = .returned (.bool true) ∧ ∃ d, w' = w.drewN d) ?_ (fun e w' h => ⟨h.1, by obtain ⟨d, rfl⟩ := h.2; exact below_drewN_ (Below.refl _ _) d⟩)
  have hl : nums l = (l.map fun (x : Nat) => (x : Int)).map (Value.int .i64) := by simp [nums]
  rw [hl] at h h'
  go_enter Try.func28, Try.ntmps28
  go_wp2
  go_loopw [13] (fun i wr => ∃ k d : Nat, k ≤ n ∧ i = .int .i64 k ∧ wr = w.drewN d) (fun i _ => n - (intOf i).toNat)
  case atStart => exact ⟨0, 0, by omega, rfl, rfl⟩
  case round =>
    obtain ⟨k, d, hk, rfl, rfl⟩ := hrel
    by_cases hlt : k < n
    · obtain ⟨ad, x, rfl, _, hx, q1⟩ := reads_num h hlt
      obtain ⟨ad', x', rfl, _, hx', q2⟩ := reads_num h' hlt
      obtain rfl : x = x' := by rw [hx] at hx'; injection hx'
      have hlt2 : (k : Int) < (n : Int) := by omega
      have hk0 : 0 ≤ (k : Int) := by omega
      clear hx hx'
      go_wp2_with fail
      go_quiet (fail)
      go_wp2_with fail
      go_roundw
      case rel => exact ⟨k + 1, _, by omega, by go_num, rfl⟩
      case measure => simp [intOf]; omega
    · obtain rfl : k = n := by omega
      go_wp2_with fail
      go_ret
      exact ⟨rfl, d, rfl⟩
theorem RunF.swapF {W0 W : World} {fp0 fpa : List Nat} {a b : Thing} {ts : List Thing} {d last : Nat} {al : List (Nat × List Int)} (h : RunF W0 fp0 fpa (a :: b :: ts) d al last W) : RunF W0 fp0 fpa (b :: a :: ts) d al last W :=
  ⟨h.ar, h.on, h.at_, fun t ht => h.tg t ((List.Perm.swap b a ts).mem_iff.2 ht), ((List.Perm.swap b a ts).pairwise_iff (fun {a b} hab k hk hm => hab k hm hk)).1 h.pw⟩
def updA (T : Array Value) (i1 i2 j1 : Nat) (y : Cl) : Act := { tmps := ((T.setIfInBounds i1 (.int .i64 (y.id : Int))).setIfInBounds i2 (.slice y.A y.ls.length y.c)).setIfInBounds j1 (.int .i64 (y.id : Int)), defers := [] }
/-- What the first range keeps. -/
def ts1 (b1 ba b9 d : Nat) (v : Value) (pre : List Cl) : List Thing := [listT b1 25 0 3 v pre.length (nums (pre.map Cl.id)), blkT ba 31 #[.pointer (some ⟨d, 0, none⟩)], blkT b9 31 #[.pointer (some ⟨d, 0, none⟩)]]
def YI1 (w4 : World) (L : List (List Int)) (la b1 ba b9 d s : Nat) (fp : List Nat) (pre : List Cl) (W : World) : Prop :=
  ∃ fpa v, RunF w4 [] fpa (ts1 b1 ba b9 d v pre) d (putA L) la W ∧ fp = allB fpa (ts1 b1 ba b9 d v pre) ∧ Ph1 L pre ∧ pre.length ≤ s
/-- What is got by it. -/
def YG1 (w4 : World) (L : List (List Int)) (la b1 b9 d s : Nat) (W : World) : Prop :=
  ∃ v, Run w4 [] [listT b1 25 0 3 v (min L.length s) (nums (odds (min L.length s))), blkT b9 31 #[.pointer (some ⟨d, 0, none⟩)]] d (putA L) la W
theorem YI1.got {w4 W : World} {L : List (List Int)} {la b1 ba b9 d s : Nat} {fp : List Nat} {pre : List Cl} (h : YI1 w4 L la b1 ba b9 d s fp pre W) (he : pre.length = min L.length s) : YG1 w4 L la b1 b9 d s W := by
  obtain ⟨fpa, v, h1, _, h2, _⟩ := h
  have hr : Run w4 [] (ts1 b1 ba b9 d v pre) d (putA L) la W := ⟨fpa, h1⟩
  unfold ts1 at hr
  rw [h2.1, he] at hr
  exact ⟨v, (hr.swap).tail⟩
theorem Run.sub {W0 W : World} {fp0 : List Nat} {ts ts' : List Thing} {d last : Nat} {al : List (Nat × List Int)} (h : Run W0 fp0 ts d al last W) (hs : ts'.Sublist ts) : Run W0 fp0 ts' d al last W := by
  obtain ⟨fpa, h⟩ := h
  exact ⟨fpa, h.ar, h.on, h.at_, fun q hq => h.tg q (hs.subset hq), h.pw.sublist hs⟩
/-- What the second range keeps. -/
def ts2 (r b2 b9 d : Nat) (out : Int) (v : Value) (ch : Bool) (pre : List Cl) : List Thing :=
  [listT (r + 1) 25 0 3 v pre.length (nums (pre.map Cl.id)), blkT b2 31 #[.pointer (some ⟨d, 0, none⟩)], blkT (r + 1 + 1) 4 #[.bool ch], blkT r 3 #[.int .i64 out], blkT b9 31 #[.pointer (some ⟨d, 0, none⟩)]]
def alP (L : List (List Int)) (g a k : Nat) : List (Nat × List Int) := if a < k then alC L g else putA L
def laP (la a k : Nat) : Nat := if a < k then 1000 else la
def PhP (L : List (List Int)) (g a : Nat) (pre : List Cl) : Prop := if a < pre.length then Ph2 L g a pre else Ph1 L pre
def YI2 (w4 : World) (L : List (List Int)) (la r b2 b9 d g a Dd : Nat) (fp : List Nat) (pre : List Cl) (W : World) : Prop :=
  W.heap[Dd]? = some (.deferred (some [])) ∧ ∃ fpa v, RunF w4 [] fpa (ts2 r b2 b9 d (2 * (g : Int) + 1) v (decide (a < pre.length)) pre) d (alP L g a pre.length) (laP la a pre.length) W ∧ fp = allB fpa (ts2 r b2 b9 d (2 * (g : Int) + 1) v (decide (a < pre.length)) pre) ∧ PhP L g a pre
def YG2 (w4 : World) (L : List (List Int)) (la r b9 d g a Dd : Nat) (W : World) : Prop :=
  W.heap[Dd]? = some (.deferred (some [])) ∧ ∃ (v : Value) (ch : Bool) (al : List (Nat × List Int)) (last : Nat), (ch = decide (a < L.length)) ∧ Run w4 [] [listT (r + 1) 25 0 3 v (wantF ch g a L.length).length (nums (wantF ch g a L.length)), blkT (r + 1 + 1) 4 #[.bool ch], blkT r 3 #[.int .i64 (2 * (g : Int) + 1)]] d al last W
theorem Run.ch2 {V W : World} {F : List Nat} {t0 : Thing} {r b2 b9 d d0 last : Nat} {out : Int} {v : Value} {c : Bool} {pre : List Cl} {al : List (Nat × List Int)} (h : Run V F (t0 :: ts2 r b2 b9 d out v c pre) d0 al last W) : Run V F (t0 :: ts2 r b2 b9 d out v true pre) d0 al last (W.setCell ⟨r + 1 + 1, 0, none⟩ (.bool true)) := by
  have k18 : Blk W (r + 1 + 1) 4 #[.bool c] := h.thing (t := blkT (r + 1 + 1) 4 #[.bool c]) (by simp [ts2])
  have h1 := h.perm (List.perm_middle (l₁ := [t0, listT (r + 1) 25 0 3 v pre.length (nums (pre.map Cl.id)), blkT b2 31 #[.pointer (some ⟨d, 0, none⟩)]]) (a := blkT (r + 1 + 1) 4 #[.bool c]) (l₂ := [blkT r 3 #[.int .i64 out], blkT b9 31 #[.pointer (some ⟨d, 0, none⟩)]]))
  have h2 := h1.change (t' := blkT (r + 1 + 1) 4 #[.bool true]) ((Only.refl [r + 1 + 1] W).setCell (p := ⟨r + 1 + 1, 0, none⟩) (.inl (by simp)) (.bool true)) (by have := k18.set_ 0 (.bool true); simpa [blkT] using this) (by simp [blkT])
  exact h2.perm (List.perm_middle (l₁ := [t0, listT (r + 1) 25 0 3 v pre.length (nums (pre.map Cl.id)), blkT b2 31 #[.pointer (some ⟨d, 0, none⟩)]]) (a := blkT (r + 1 + 1) 4 #[.bool true]) (l₂ := [blkT r 3 #[.int .i64 out], blkT b9 31 #[.pointer (some ⟨d, 0, none⟩)]])).symm
theorem wantF_none (g a k : Nat) : wantF false g a k = odds k := by simp [wantF, wantI_none]
theorem PhP.step {L : List (List Int)} {g a last : Nat} (hL : L.length ≤ 60) {pre : List Cl} (h : PhP L g a pre) (ha : AOk (alP L g a pre.length) last) {y : Cl} (hn : nxt (alP L g a pre.length) (lastId pre) = some (y.id, y.ls)) :
    ((∃ (i : Nat) (l : List Int), L[i]? = some l ∧ y.id = 2 * i + 1 ∧ y.ls = mkC l) ∨ y.id = 1000) ∧ PhP L g a (pre ++ [y]) ∧ pre.length ≤ 61 := by
  have hl : (pre ++ [y]).length = pre.length + 1 := by simp
  by_cases hk : a < pre.length
  · have h2 : Ph2 L g a pre := by unfold PhP at h; rwa [if_pos hk] at h
    unfold alP at ha hn
    rw [if_pos hk] at ha hn
    obtain ⟨q1, q2⟩ := h2.step hL ha hn
    refine ⟨q1, ?_, by have := h2.len; omega⟩
    unfold PhP
    rwa [if_pos (by omega)]
  · have h1 : Ph1 L pre := by unfold PhP at h; rwa [if_neg hk] at h
    unfold alP at ha hn
    rw [if_neg hk] at ha hn
    obtain ⟨q1, q2, ⟨l, q3, q4⟩, q5⟩ := h1.step ha hn
    refine ⟨.inl ⟨_, l, q3, q2, q4⟩, ?_, by omega⟩
    unfold PhP
    by_cases he : pre.length = a
    · rw [if_pos (by omega)]
      exact Ph2.of1 hL q5 (by omega)
    · rwa [if_neg (by omega)]
theorem PhP.end_ {L : List (List Int)} {g a : Nat} {pre : List Cl} (h : PhP L g a pre) (hn : nxt (alP L g a pre.length) (lastId pre) = none) : pre.map Cl.id = wantF (decide (a < L.length)) g a L.length ∧ decide (a < pre.length) = decide (a < L.length) := by
  by_cases hk : a < pre.length
  · have h2 : Ph2 L g a pre := by unfold PhP at h; rwa [if_pos hk] at h
    unfold alP at hn
    rw [if_pos hk] at hn
    have h3 := h2.2.2
    rw [decide_eq_true hk, decide_eq_true h3]
    exact ⟨h2.end_ hn, rfl⟩
  · have h1 : Ph1 L pre := by unfold PhP at h; rwa [if_neg hk] at h
    unfold alP at hn
    rw [if_neg hk] at hn
    have h3 := h1.end_ hn
    rw [← h3, decide_eq_false hk, wantF_none]
    exact ⟨h1.1, rfl⟩
theorem add_1000 {L : List (List Int)} {la g : Nat} (hL : L.length ≤ 60) (hla : la ≤ 119) : addErr (without (putA L) (2 * (g : Int) + 1)) la 1000 [5] = 0 ∧ addAl (without (putA L) (2 * (g : Int) + 1)) la 1000 [5] = alC L g ∧ addLast (without (putA L) (2 * (g : Int) + 1)) la 1000 [5] = 1000 := by
  have hu : usedL (without (putA L) (2 * (g : Int) + 1)) ≤ 1200 := by
    rw [← alG_none, alG_without]
    have := alG_bd (updG (fun _ => false) g) L L.length (Nat.le_refl _)
    rw [List.take_of_length_le (Nat.le_refl _)] at this
    omega
  have he : addErr (without (putA L) (2 * (g : Int) + 1)) la 1000 [5] = 0 := by
    unfold addErr
    rw [if_neg (by decide), if_neg (by omega), if_neg (by simp; omega)]
  exact ⟨he, if_pos he, if_pos he⟩
set_option maxRecDepth 100000 in
theorem yields_in (m : Nat) (hm1 : 3 ≤ m) {A : Option Addr} {n c B : Nat} {ll : List (List Int)} {vs : List Value} (w : World) (hrd : Reads w B 1 A n vs) (hN : Nest w B vs ll) (hB : B ≤ w.heap.size) (hm : n ≤ 9223372036854775807) (hc : n ≤ c)
    (s at_ gn : Nat) (hs : s ≤ 255) (hat_ : at_ ≤ 255) (hgn : gn ≤ 255) :
    CallsIn Fence.wide m Try.prog 6 #[.slice A n c, .int .u8 (s : Int), .int .u8 (at_ : Int), .int .u8 (gn : Int)] w fun e w' => e = .returned (.bool true) ∧ Below w.heap.size w w' := by
  have hll : ll.length = n := by have := hrd.1; have := hN.len; omega
  have hput : ∀ W, Below w.heap.size w W → Calls Try.prog 25 #[.slice A n c] W (PutP W (ll.take 60)) := fun W hW => put_ok (hrd.below (hW.mono hB)) (hN.below (hW.mono hB)) (Nat.le_trans hB hW.size) hm hc
  obtain ⟨L, hL⟩ : ∃ L, L = ll.take 60 := ⟨_, rfl⟩
  have hLl : L.length = min 60 n := by rw [hL, List.length_take, hll]
  have hLa : ∀ (k : Nat) (l : List Int), L[k]? = some l → ll[k]? = some l := fun k l h => by
    rw [hL, List.getElem?_take] at h
    split at h
    · exact h
    · cases h
  rw [← hL] at hput
  unfold PutP at hput
  obtain ⟨N, hNn⟩ : ∃ N, N = L.length := ⟨_, rfl⟩
  rw [← hNn] at hput hLl
  have hNn' := Lib.hid hNn
  replace hLa := Lib.hid hLa
  replace hrd := Lib.hid hrd
  replace hN := Lib.hid hN
  replace hput := Lib.hid hput
  replace hLl := Lib.hid hLl
  clear hL hNn hll
  obtain ⟨i0, hi, hz0, hz1, hz2⟩ := info_parts info3
  refine callsIn_of_wp_marks Try.func6 rfl trivial ?_ rfl
  simp only [Try.ntmps6, List.size_toArray, List.length_cons, List.length_nil, Nat.reduceAdd, Nat.reduceSub, Array.replicate_succ, Array.replicate_zero, List.push_toArray, List.append_toArray, List.nil_append, List.cons_append]
  refine wpIn_wide.2 ?_
  go_upto_region 1 with fail
  obtain ⟨w4, hw4⟩ : ∃ w4, w4 = (((w.alloc (.cells #[.slice A n c] 51)).alloc (.cells #[.int .u8 (s : Int)] 5)).alloc (.cells #[.int .u8 (at_ : Int)] 5)).alloc (.cells #[.bool false] 4) := ⟨_, rfl⟩
  have hB4 : Below w.heap.size w w4 := by
    rw [hw4]
    exact ((((Below.refl _ _).alloc (Nat.le_refl _) _).alloc (by simp) _).alloc (by simp; omega) _).alloc (by simp; omega) _
  have hs4 : w4.heap.size = w.heap.size + 4 := by rw [hw4]; simp
  have k0 : Blk w4 w.heap.size 51 #[.slice A n c] := by rw [hw4]; exact (((Blk.new w 51 _).alloc _).alloc _).alloc _
  have k1 : Blk w4 (w.heap.size + 1) 5 #[.int .u8 (s : Int)] := by
    have := Blk.new (w.alloc (.cells #[.slice A n c] 51)) 5 #[.int .u8 (s : Int)]
    rw [World.size_alloc] at this
    rw [hw4]; exact (this.alloc _).alloc _
  have k2 : Blk w4 (w.heap.size + 1 + 1) 5 #[.int .u8 (at_ : Int)] := by
    have := Blk.new ((w.alloc (.cells #[.slice A n c] 51)).alloc (.cells #[.int .u8 (s : Int)] 5)) 5 #[.int .u8 (at_ : Int)]
    rw [World.size_alloc, World.size_alloc] at this
    rw [hw4]; exact this.alloc _
  have k3 : Blk w4 (w.heap.size + 1 + 1 + 1) 4 #[.bool false] := by
    have := Blk.new (((w.alloc (.cells #[.slice A n c] 51)).alloc (.cells #[.int .u8 (s : Int)] 5)).alloc (.cells #[.int .u8 (at_ : Int)] 5)) 4 #[.bool false]
    rw [World.size_alloc, World.size_alloc, World.size_alloc] at this
    rw [hw4]; exact this
  rw [← hw4]
  clear hw4
  have c0 := k0.cell 0
  simp only [List.getElem?_toArray, List.getElem?_cons_zero] at c0
  go_upto_region 4 with (go_at_call 25; refine (hput.out _ hB4).mono ?_; rintro e Wp ⟨d, rfl, hR⟩; have k0p := k0.below hR.below (by omega); have c0p := k0p.cell 0; simp only [List.getElem?_toArray, List.getElem?_cons_zero] at c0p)
  have hR1 := hR.fresh (t := blkT Wp.heap.size 31 #[.pointer (some ⟨d, 0, none⟩)]) ((Below.refl _ _).alloc (Nat.le_refl _) _) (Blk.new Wp 31 _) (by simp [blkT])
  obtain ⟨b9, hb9⟩ : ∃ b9, b9 = Wp.heap.size := ⟨_, rfl⟩
  rw [← hb9] at hR1 ⊢
  generalize Wp.alloc (.cells #[.pointer (some ⟨d, 0, none⟩)] 31) = W1 at *
  clear hR hb9 k0p c0p c0
  have c0 := (k0.below hR1.below (by omega)).cell 0
  simp only [List.getElem?_toArray, List.getElem?_cons_zero] at c0
  have hl0 : w.heap.size < W1.heap.size := by have := hR1.below.size; omega
  go_cut [11] from 30 to 33 (fun v wx => v = .int .i64 (N : Int) ∧ W1 = wx)
  case first =>
    have := hLl.out
    go_wp2
    all_goals (go_meet; exact ⟨by congr 1; omega, rfl⟩)
  case rest =>
    obtain ⟨rfl, rfl⟩ := hcut
    have c9 := (show Blk W1 b9 31 #[.pointer (some ⟨d, 0, none⟩)] from hR1.thing (t := blkT b9 31 #[.pointer (some ⟨d, 0, none⟩)]) (by simp)).cell 0
    have hl9 := (show Blk W1 b9 31 #[.pointer (some ⟨d, 0, none⟩)] from hR1.thing (t := blkT b9 31 #[.pointer (some ⟨d, 0, none⟩)]) (by simp)).lt
    simp only [List.getElem?_toArray, List.getElem?_cons_zero] at c9
    go_wp2_with (go_at_call 20; refine (all_ok _ _).mono ?_; rintro e w' ⟨rfl, rfl⟩)
    rename_i hcont
    replace hcont := Lib.hid hcont
    have hR2 := ((hR1.fresh (t := listT W1.heap.size 25 0 3 (.slice none 0 0) 0 (nums [])) ((Below.refl _ _).alloc (Nat.le_refl _) (.cells #[.slice none 0 0] 25)) ⟨Blk.new W1 25 _, World.ownsRow_nil _ _ _ _⟩ (by simp [listT, Value.ownBlock])).fresh (t := blkT (W1.heap.size + 1) 31 #[.pointer (some ⟨d, 0, none⟩)]) ((Below.refl _ _).alloc (Nat.le_refl _) (.cells #[.pointer (some ⟨d, 0, none⟩)] 31)) (by have := Blk.new (W1.alloc (.cells #[.slice none 0 0] 25)) 31 #[.pointer (some ⟨d, 0, none⟩)]; rwa [World.size_alloc] at this) (by simp [blkT])).swap
    have hsz4 : ((W1.alloc (.cells #[.slice none 0 0] 25)).alloc (.cells #[.pointer (some ⟨d, 0, none⟩)] 31)).heap.size = W1.heap.size + 2 := by simp
    generalize (W1.alloc (.cells #[.slice none 0 0] 25)).alloc (.cells #[.pointer (some ⟨d, 0, none⟩)] 31) = W2 at *
    obtain ⟨b1, hb1⟩ : ∃ b1, b1 = W1.heap.size := ⟨_, rfl⟩
    have hlt1 : b1 + 1 < W2.heap.size := by omega
    rw [← hb1] at hR2 ⊢
    have hle : w4.heap.size ≤ W2.heap.size := hR2.below.size
    have hN60 : L.length ≤ 60 := by have := hLl.out; have := hNn'.out; omega
    have hla9 : putL N ≤ 119 := by have := hNn'.out; unfold putL; omega
    generalize putL N = la at *
    obtain ⟨fpa, hF⟩ := hR2
    clear hR1 hb1 c9 hl9 c0 hl0 hsz4
    refine (wpIn_wide (n := m)).1 ?_
    refine wpIn_range2_join rfl (enters_of Try.func42 (by kernel_rfl) rfl) (seq42 0 d (b1 + 1)) (fun _ => rfl)
      (YI1 w4 L la b1 (b1 + 1) b9 d s) (fun _ W => YG1 w4 L la b1 b9 d s W)
      (fun fp => ownFrom_of fun x W W' kk ⟨fpa, v, h1, h2⟩ => ⟨fpa, v, h1.ck kk hle, h2⟩) (ownFrom_of fun _ _ _ kk ⟨v, fpa, h⟩ => ⟨v, fpa, h.ck kk hle⟩) (fun fp pre W ⟨fpa, v, h1, h2⟩ => ⟨(h1.tg (blkT (b1 + 1) 31 #[.pointer (some ⟨d, 0, none⟩)]) (by simp [ts1])).1, fpa, _, _, h1.ar⟩) (allB fpa (ts1 b1 (b1 + 1) b9 d (.slice none 0 0) [])) (fun k hk => (hF.lt k hk).1) ⟨fpa, _, hF, rfl, Ph1.zero L, Nat.zero_le _⟩
      (fun T N fp pre y a' W => AxC (updA T 35 36 13) (fun pre y => nxt (putA L) (lastId pre) = some (y.id, y.ls)) N pre y a' W) (fun N fp pre y a' => own_axC) ?assign 0 (fun _ _ h => h) ?body
      (YG1 w4 L la b1 b9 d s) ?done ?hE (fun _ _ h => h) ?fin
    case assign =>
      intro l2 m2 fp pre y V W5 K hI0 hI hO01 hX hK
      obtain ⟨fp2, al2, last2, hA2, hn2, hown⟩ := hX
      obtain ⟨fpa2, v2, hF2, _⟩ := hI0
      obtain ⟨_, rfl, rfl⟩ := hF2.ar.uniq hA2
      have hfin := hK _ W5 (Only.refl [] _) hI ⟨rfl, hn2, hown⟩
      clear hK
      simp only [updA, List.setIfInBounds_toArray, List.set_cons_succ, List.set_cons_zero] at hfin
      replace hfin := Lib.hid hfin
      simp only [encC]
      gi_wp2
      exact hfin.out
    case body =>
      rintro l2 m2 fp pre ⟨yid, yls, yA, yc⟩ a' V W5 ⟨fpa2, v2, hF2, rfl, hp1, hps⟩ hO01 ⟨fpa3, v3, hF3, hfp3, _⟩ ⟨rfl, hnx, hown⟩
      dsimp only at hnx
      simp only [updA, List.setIfInBounds_toArray, List.set_cons_succ, List.set_cons_zero]
      have hBw := hF3.on.below (Nat.le_refl _) (by simp)
      have b5 := (k1.below hBw (by omega)).cell 0
      have hl5 : w.heap.size + 1 < W5.heap.size := by have := hBw.size; omega
      obtain ⟨hlb, hrow⟩ := (hF3.tg (listT b1 25 0 3 v3 pre.length (nums (pre.map Cl.id))) (by simp [ts1])).1
      have c1 := hlb.cell 0
      have hl1 := hlb.lt
      simp only [List.getElem?_toArray, List.getElem?_cons_zero] at b5 c1
      obtain ⟨Av, cv, rfl⟩ := own_form hrow
      have hpl := hp1.2.1
      have hp9 : (pre.length : Int) ≤ 60 := by omega
      by_cases he : pre.length = s
      · have hG : YG1 w4 L la b1 b9 d s W5 := YI1.got ⟨fpa3, _, hF3, rfl, hp1, hps⟩ (by omega)
        have heb : ((pre.length : Int) == (s : Int)) = true := by simp; omega
        replace hG := Lib.hid hG
        replace hO01 := Lib.hid hO01
        clear hF2 hF3 hfp3 hp1 hps hnx hown hrow hlb hBw hF he
        generalize pre.length = q at *
        gi_wp2
        exact ⟨⟨[], by simp, hO01.out.more (by simp)⟩, rfl, hG.out⟩
      · have heb : ((pre.length : Int) == (s : Int)) = false := by simp; omega
        obtain ⟨p1, p2, _, p4⟩ := hp1.step hF3.ar.ok (y := ⟨yid, yls, yA, yc⟩) hnx
        have hR := hF3.rebase hO01
        rw [← hfp3] at hR
        replace hp1 := Lib.hid hp1
        replace he := Lib.hid he
        replace hpl := Lib.hid hpl
        replace hps := Lib.hid hps
        replace p1 := Lib.hid p1
        replace p2 := Lib.hid p2
        clear hown hnx hfp3 hF3
        gi_upto_region 9 with (fail)
        apply wpIn_region_lit
        refine list_lift ?_ _ _ _ (by intro o ho; simp at ho; rcases ho with rfl | rfl | rfl | rfl | rfl <;> intro c hc <;> cases hc) ?_
        · intro a w hh
          exact hh
        have hnv : some b1 ≠ (Value.slice Av pre.length cv).ownBlock := fun e => own_blk_ne hrow hlb (by decide) e.symm
        go_wp2_with (at_builtin; refine wpList_append_any _ rfl _ _ 25 rfl 0 3 i0 _ 1 8 Try.underlying25 hi hz0 hz1 hz2 rfl (by omega) (.slice Av pre.length cv) pre.length (nums (pre.map Cl.id)) rfl (row_new hrow ((Below.refl _ _).alloc (Nat.le_refl _) _)) (W5.heap.size + 1) (some ⟨W5.heap.size, 0, none⟩) 1 1 [.int .i64 (yid : Int)] rfl (lit_readsN W5 3 _ 1 rfl) (by simp [Value.oneCell']) (by simp only [maxLen]; omega) (by omega) (by simp) ?_; intro v' w3 hown hgrow hat; obtain ⟨A5, c5, rfl⟩ := own_form hown; have hb3 := (hlb.alloc (.cells #[.int .i64 (yid : Int)] 3)).grown hgrow hnv; have b3 := hb3.cell 0; have fz3 := hb3.frozen 0; simp only [List.getElem?_toArray, List.getElem?_cons_zero] at b3)
        have hR2 : Run V (allB fpa2 (ts1 b1 (b1 + 1) b9 d v2 pre)) (ts1 b1 (b1 + 1) b9 d (.slice A5 (pre.length + 1) c5) (pre ++ [⟨yid, yls, yA, yc⟩])) d (putA L) la (w3.setCell ⟨b1, 0, none⟩ (.slice A5 (pre.length + 1) c5)) := by
          have := Run.pushL hR (by decide) hown hgrow hat
          simpa [ts1, nums_snoc] using this
        obtain ⟨hO, fpa', hF', hm'⟩ := round_end hF2 hR2
        exact ⟨hO, _, ⟨fpa', _, hF', rfl, p4, by have := hps.out; have := he.out; simp; omega⟩, hm'⟩
    case done =>
      rintro fp xs W5 ⟨fp2, al2, last2, hA2, hn2⟩ ⟨fpa2, v2, hF2, rfl, hp1, hps⟩
      obtain ⟨_, rfl, rfl⟩ := hF2.ar.uniq hA2
      exact YI1.got ⟨fpa2, v2, hF2, rfl, hp1, hps⟩ (by have := hp1.end_ hn2; omega)
    case hE =>
      rintro xs W l o o' h1 h2 h3 ⟨fp2, al2, last2, hA2, hn2⟩
      exact ⟨fp2, al2, last2, hA2.ck (CellsKept.putObj (B := 0) W _ h2 h3 (Nat.zero_le _)), hn2⟩
    case fin =>
      rintro Dd W5 hDd ⟨v, hR⟩ hDm
      refine hcont.out _ _ ?_
      clear hcont
      dsimp only
      obtain ⟨q, hq⟩ : ∃ q, q = min L.length s := ⟨_, rfl⟩
      rw [← hq] at hR
      have hq1 : q ≤ L.length ∧ q ≤ s ∧ (q = L.length ∨ q = s) := by omega
      replace hq1 := Lib.hid hq1
      have hLN := hNn'.out
      replace hLN := Lib.hid hLN
      clear hq
      have hBw := hR.below
      have hl1 := (hR.thing (t := listT b1 25 0 3 v q (nums (odds q))) (by simp)).1.lt
      have b1c := (hR.thing (t := listT b1 25 0 3 v q (nums (odds q))) (by simp)).1.cell 0
      have hrow : W5.ownsRow 0 3 1 v q (nums (odds q)) := (hR.thing (t := listT b1 25 0 3 v q (nums (odds q))) (by simp)).2
      obtain ⟨Av, cv, rfl⟩ := own_form hrow
      have b5 := (k1.below hBw (by omega)).cell 0
      have hl5 : w.heap.size + 1 < W5.heap.size := by have := hBw.size; omega
      simp only [List.getElem?_toArray, List.getElem?_cons_zero] at b5 b1c
      go_upto_region 10 with fail
      go_cut [52] from 46 to 53 (fun v wx => v = .bool false ∧ W5 = wx)
      case first =>
        have e1 := hq1.out
        have e2 := hLN.out
        rw [← e2] at e1
        have e3 := hN60
        rw [← e2] at e3
        by_cases h5 : N ≤ s
        · have e4 : (N : Int) ≤ (s : Int) := by omega
          have e5 : ((q : Int) != (N : Int)) = false := by simp; omega
          have e6 : min (N : Int) (s : Int) = N := by omega
          go_wp2
          all_goals (go_meet; exact ⟨by first | rfl | (congr 1; simp; done) | (congr 1; simp; omega), rfl⟩)
        · have e4 : (s : Int) ≤ (N : Int) := by omega
          have e5 : ((q : Int) != (s : Int)) = false := by simp; omega
          have e6 : min (N : Int) (s : Int) = s := by omega
          go_wp2
          all_goals (go_meet; exact ⟨by first | rfl | (congr 1; simp; done) | (congr 1; simp; omega), rfl⟩)
      case rest =>
        obtain ⟨rfl, rfl⟩ := hcut
        go_wp2_with fail
        go_loopw [55] (fun i wr => ∃ k : Nat, k ≤ q ∧ i = .int .i64 k ∧ W5 = wr) (fun i _ => q - (intOf i).toNat)
        case atStart => exact ⟨0, by omega, rfl, rfl⟩
        case round =>
          obtain ⟨k, hk, rfl, rfl⟩ := hrel
          have hq60 : q ≤ 60 := by have := hq1.out; omega
          by_cases hlt : k < q
          · obtain ⟨ad, x, rfl, hab, hx, q0⟩ := reads_num (Reads.of_own (by have := hrow; rwa [show nums (odds q) = ((odds q).map fun (x : Nat) => (x : Int)).map (Value.int .i64) by simp [nums]] at this)) hlt
            rw [List.getElem?_map, odds_at hlt] at hx
            have hxe : ((2 * k + 1 : Nat) : Int) = x := by injection hx
            have hxv : x = 2 * (k : Int) + 1 := by omega
            subst hxv
            have t1 : (k : Int) < (q : Int) := by omega
            have t2 : 0 ≤ (k : Int) := by omega
            clear hx hxe
            go_wp2_with fail
            go_roundw
            case rel => exact ⟨k + 1, by omega, by go_num, by trivial⟩
            case measure => simp [intOf]; omega
          · obtain rfl : q = k := by omega
            clear hrow b1c b5 hl1 hl5
            obtain ⟨g, hg⟩ : ∃ g, g = gn % 60 := ⟨_, rfl⟩
            obtain ⟨a, ha⟩ : ∃ a, a = at_ % 60 := ⟨_, rfl⟩
            have hge : (gn : Int) % 60 = (g : Int) := by omega
            have hae : (at_ : Int) % 60 = (a : Int) := by omega
            have hg60 : g < 60 := by omega
            have ha60 : a < 60 := by omega
            clear hg ha
            go_upto_region 21 with fail
            rw [hge]
            have hR6 := ((hR.fresh (t := blkT W5.heap.size 3 #[.int .i64 (2 * (g : Int) + 1)]) ((Below.refl _ _).alloc (Nat.le_refl _) (.cells #[.int .i64 (2 * (g : Int) + 1)] 3)) (Blk.new W5 3 _) (by simp [blkT])).fresh (t := listT (W5.heap.size + 1) 25 0 3 (.slice none 0 0) 0 (nums [])) ((Below.refl _ _).alloc (Nat.le_refl _) (.cells #[.slice none 0 0] 25)) ⟨by have := Blk.new (W5.alloc (.cells #[.int .i64 (2 * (g : Int) + 1)] 3)) 25 #[.slice none 0 0]; rwa [World.size_alloc] at this, World.ownsRow_nil _ _ _ _⟩ (by simp [listT, Value.ownBlock])).fresh (t := blkT (W5.heap.size + 1 + 1) 4 #[.bool false]) ((Below.refl _ _).alloc (Nat.le_refl _) (.cells #[.bool false] 4)) (by have := Blk.new ((W5.alloc (.cells #[.int .i64 (2 * (g : Int) + 1)] 3)).alloc (.cells #[.slice none 0 0] 25)) 4 #[.bool false]; rwa [World.size_alloc, World.size_alloc] at this) (by simp [blkT])
            have hB6 : Below W5.heap.size W5 (((W5.alloc (.cells #[.int .i64 (2 * (g : Int) + 1)] 3)).alloc (.cells #[.slice none 0 0] 25)).alloc (.cells #[.bool false] 4)) := (((Below.refl _ _).alloc (Nat.le_refl _) _).alloc (by simp) _).alloc (by simp; omega) _
            generalize ((W5.alloc (.cells #[.int .i64 (2 * (g : Int) + 1)] 3)).alloc (.cells #[.slice none 0 0] 25)).alloc (.cells #[.bool false] 4) = W6 at *
            have c9 := (show Blk W6 b9 31 #[.pointer (some ⟨d, 0, none⟩)] from hR6.thing (t := blkT b9 31 #[.pointer (some ⟨d, 0, none⟩)]) (by simp)).cell 0
            simp only [List.getElem?_toArray, List.getElem?_cons_zero] at c9
            have hDd5 := (Array.getElem?_eq_some_iff.1 hDm).1
            have hDm6 : W6.heap[Dd]? = some (.deferred (some [])) := (hB6.block Dd hDd5).trans hDm
            have hDd6 : Dd < W6.heap.size := Nat.lt_of_lt_of_le hDd5 hB6.size
            obtain ⟨r, hr⟩ : ∃ r, r = W5.heap.size := ⟨_, rfl⟩
            rw [← hr] at hR6 ⊢
            clear hDm hB6 hR hDd5 hr
            go_wp2_with (go_at_call 20; refine (all_ok _ _).mono ?_; rintro e w' ⟨rfl, rfl⟩)
            rename_i hcont
            replace hcont := Lib.hid hcont
            have hR7 := hR6.fresh (t := blkT W6.heap.size 31 #[.pointer (some ⟨d, 0, none⟩)]) ((Below.refl _ _).alloc (Nat.le_refl _) (.cells #[.pointer (some ⟨d, 0, none⟩)] 31)) (Blk.new W6 31 _) (by simp [blkT])
            have hDm7 : (W6.alloc (.cells #[.pointer (some ⟨d, 0, none⟩)] 31)).heap[Dd]? = some (.deferred (some [])) := (Below.heap_alloc W6 _ Dd hDd6).trans hDm6
            have hDd7 : Dd < (W6.alloc (.cells #[.pointer (some ⟨d, 0, none⟩)] 31)).heap.size := by simp; omega
            obtain ⟨b2, hb2⟩ : ∃ b2, b2 = W6.heap.size := ⟨_, rfl⟩
            rw [← hb2] at hR7 ⊢
            generalize W6.alloc (.cells #[.pointer (some ⟨d, 0, none⟩)] 31) = W7 at *
            clear hb2 hDm6 hDd6 hR6 c9
            have hR8 : Run w4 [] (ts2 r b2 b9 d (2 * (g : Int) + 1) (.slice none 0 0) false []) d (putA L) la W7 :=
              (hR7.sub (ts' := [blkT b2 31 #[.pointer (some ⟨d, 0, none⟩)], blkT (r + 1 + 1) 4 #[.bool false], listT (r + 1) 25 0 3 (.slice none 0 0) 0 (nums []), blkT r 3 #[.int .i64 (2 * (g : Int) + 1)], blkT b9 31 #[.pointer (some ⟨d, 0, none⟩)]])
                (.cons_cons _ (.cons_cons _ (.cons_cons _ (.cons_cons _ (.cons _ (.refl _))))))).perm (List.perm_middle (l₁ := [blkT b2 31 #[.pointer (some ⟨d, 0, none⟩)], blkT (r + 1 + 1) 4 #[.bool false]]) (a := listT (r + 1) 25 0 3 (.slice none 0 0) 0 (nums [])) (l₂ := [blkT r 3 #[.int .i64 (2 * (g : Int) + 1)], blkT b9 31 #[.pointer (some ⟨d, 0, none⟩)]]))
            clear hR7
            have hle7 : w4.heap.size ≤ W7.heap.size := hR8.below.size
            obtain ⟨fpb, hG0⟩ := hR8
            refine (wpIn_wide (n := m)).1 ?_
            refine wpIn_range2_join rfl (enters_of Try.func42 (by kernel_rfl) rfl) (seq42 0 d b2) (fun _ => rfl)
              (YI2 w4 L la r b2 b9 d g a Dd) (fun _ _ => False)
              (fun fp => ownFrom_of fun x W W' kk ⟨h0, fpa, v, h1, h2⟩ => ⟨kk.same _ _ h0 (.inr (by omega)), fpa, v, h1.ck kk hle7, h2⟩) (ownFrom_of fun _ _ _ kk h => h) (fun fp pre W ⟨_, fpa, v, h1, h2⟩ => ⟨(h1.tg (blkT b2 31 #[.pointer (some ⟨d, 0, none⟩)]) (by simp [ts2])).1, fpa, _, _, h1.ar⟩) (allB fpb (ts2 r b2 b9 d (2 * (g : Int) + 1) (.slice none 0 0) false [])) (fun k hk => (hG0.lt k hk).1) ⟨hDm7, fpb, _, hG0, rfl, Ph1.zero L⟩
              (fun T N fp pre y a' W => AxC (updC T 73 74 19 20) (fun pre y => nxt (alP L g a pre.length) (lastId pre) = some (y.id, y.ls)) N pre y a' W) (fun N fp pre y a' => own_axC) ?assign2 4 (fun _ _ h => h) ?body2
              (YG2 w4 L la r b9 d g a Dd) ?done2 ?hE2 (fun _ _ h => h.elim) ?fin2
            case assign2 =>
              intro l2 m2 fp pre y V W5 K hI0 hI hO01 hX hK
              obtain ⟨fp2, al2, last2, hA2, hn2, hown⟩ := hX
              obtain ⟨_, fpa2, v2, hF2, _⟩ := hI0
              obtain ⟨_, rfl, rfl⟩ := hF2.ar.uniq hA2
              have hfin := hK _ W5 (Only.refl [] _) hI ⟨rfl, hn2, hown⟩
              clear hK
              simp only [updC, List.setIfInBounds_toArray, List.set_cons_succ, List.set_cons_zero] at hfin
              replace hfin := Lib.hid hfin
              simp only [encC]
              gi_wp2
              exact hfin.out
            case done2 =>
              rintro fp xs W5 ⟨fp2, al2, last2, hA2, hn2⟩ ⟨hDe, fpa2, v2, hF2, rfl, hp⟩
              obtain ⟨_, rfl, rfl⟩ := hF2.ar.uniq hA2
              obtain ⟨e1, e2⟩ := hp.end_ hn2
              have hR : Run w4 [] (ts2 r b2 b9 d (2 * (g : Int) + 1) v2 (decide (a < xs.length)) xs) d (alP L g a xs.length) (laP la a xs.length) W5 := ⟨fpa2, hF2⟩
              unfold ts2 at hR
              rw [e2, e1, show xs.length = (xs.map Cl.id).length by simp, e1] at hR
              exact ⟨hDe, v2, _, _, _, rfl, hR.sub (.cons_cons _ (.cons _ (.cons_cons _ (.cons_cons _ (.cons _ .slnil)))))⟩
            case hE2 =>
              rintro xs W l o o' h1 h2 h3 ⟨fp2, al2, last2, hA2, hn2⟩
              exact ⟨fp2, al2, last2, hA2.ck (CellsKept.putObj (B := 0) W _ h2 h3 (Nat.zero_le _)), hn2⟩
            case body2 =>
              rintro l2 m2 fp pre ⟨yid, yls, yA, yc⟩ a' V W5 ⟨hDe0, fpa2, v2, hF2, rfl, hp1⟩ hO01 ⟨hDe, fpa3, v3, hF3, hfp3, _⟩ ⟨rfl, hnx, hown⟩
              dsimp only at hnx hown
              simp only [updC, List.setIfInBounds_toArray, List.set_cons_succ, List.set_cons_zero]
              obtain ⟨hy, hp2, hk61⟩ := hp1.step hN60 hF3.ar.ok (y := ⟨yid, yls, yA, yc⟩) hnx
              obtain ⟨y, hyd⟩ : ∃ y : Cl, y = ⟨yid, yls, yA, yc⟩ := ⟨_, rfl⟩
              have hyi : y.id = yid := by rw [hyd]
              rw [← hyd] at hp2 ⊢
              clear hyd
              replace hyi := Lib.hid hyi
              have hDl := (Array.getElem?_eq_some_iff.1 hDe0).1
              have hDn : Dd ∉ allB fpa2 (ts2 r b2 b9 d (2 * (g : Int) + 1) v2 (decide (a < pre.length)) pre) := fun hm => by
                have := hF2.cells Dd _ hm hDe0
                cases this
              have hRF := (hF3.rebaseF hO01).adopt (t := rowT V.heap.size 30 1 (.slice yA yls.length yc) yls.length (lits yls)) hown (fun k hk => by
                have h1 := hown.lt k (by simpa [rowT] using hk)
                refine ⟨h1.1, h1.2, fun hm => ?_⟩
                rw [← hfp3] at hm
                have := (hF2.lt k hm).1
                omega)
              have hR : Run V (allB fpa2 (ts2 r b2 b9 d (2 * (g : Int) + 1) v2 (decide (a < pre.length)) pre)) (rowT V.heap.size 30 1 (.slice yA yls.length yc) yls.length (lits yls) :: ts2 r b2 b9 d (2 * (g : Int) + 1) v3 (decide (a < pre.length)) pre) d (alP L g a pre.length) (laP la a pre.length) W5 := by rw [hfp3]; exact ⟨fpa3, hRF⟩
              have hBV := hF2.on.below (Nat.le_refl _) (by simp)
              have hBF : ∀ k, k ∈ allB fpa2 (ts2 r b2 b9 d (2 * (g : Int) + 1) v2 (decide (a < pre.length)) pre) → w4.heap.size ≤ k := fun k hk => by
                rcases (hF2.lt k hk).2 with h | h
                · cases h
                · exact h
              have hfin := fun ts' al' last' W' => @round_end w4 V W' [] fpa2 _ ts' d _ last' _ al' hF2
              clear hRF hF3 hfp3 hown hnx hDe hF2
              generalize allB fpa2 (ts2 r b2 b9 d (2 * (g : Int) + 1) v2 (decide (a < pre.length)) pre) = F at *
              have hBW : ∀ W ts' al' last', Run V F ts' d al' last' W → Below w4.heap.size w4 W := fun W ts' al' last' h => hBV.trans (h.on.below hBV.size hBF)
              have hk70 : ¬ 70 < (pre.length : Int) := by omega
              have hk62 : (pre.length : Int) ≤ 61 := by omega
              obtain ⟨hlb, hrow⟩ : Blk W5 (r + 1) 25 #[v3] ∧ W5.ownsRow 0 3 1 v3 pre.length (nums (pre.map Cl.id)) := hR.thing (t := listT (r + 1) 25 0 3 v3 pre.length (nums (pre.map Cl.id))) (by simp [ts2])
              obtain ⟨Av, cv, rfl⟩ := own_form hrow
              have c17 := hlb.cell 0
              have k18 : Blk W5 (r + 1 + 1) 4 #[.bool (decide (a < pre.length))] := hR.thing (t := blkT (r + 1 + 1) 4 #[.bool (decide (a < pre.length))]) (by simp [ts2])
              have c16 := (show Blk W5 r 3 #[.int .i64 (2 * (g : Int) + 1)] from hR.thing (t := blkT r 3 #[.int .i64 (2 * (g : Int) + 1)]) (by simp [ts2])).cell 0
              have c9 := (show Blk W5 b9 31 #[.pointer (some ⟨d, 0, none⟩)] from hR.thing (t := blkT b9 31 #[.pointer (some ⟨d, 0, none⟩)]) (by simp [ts2])).cell 0
              have c6 := (k2.below (hBW _ _ _ _ hR) (by omega)).cell 0
              simp only [List.getElem?_toArray, List.getElem?_cons_zero] at c17 c16 c9 c6
              replace hy := Lib.hid hy
              replace hp2 := Lib.hid hp2
              replace hfin := Lib.hid hfin
              replace hBW := Lib.hid hBW
              clear hlb hrow hp1 hk61 hBV hBF
              rcases Classical.em (pre.length = a) with hak | hak
              case' inl =>
                have heb : ((pre.length : Int) == (at_ : Int) % 60) = true := by rw [hae]; simp; omega
                rw [show alP L g a pre.length = putA L from if_neg (by omega), show laP la a pre.length = la from if_neg (by omega)] at hR
                obtain ⟨z1, z2, z3⟩ := add_1000 (g := g) hN60 hla9
                have e1 : alP L g a (pre.length + 1) = alC L g := if_pos (by omega)
                have e2 : laP la a (pre.length + 1) = 1000 := if_pos (by omega)
                have e3 : decide (a < pre.length + 1) = true := by simp; omega
                gi_upto_region 29 with (first
                  | (refine ⟨trivial, no_depth, ?_⟩; gi_at_call 15; refine ((callsIn_wide.2 (run_del hR (2 * (g : Int) + 1) (by omega) rfl rfl)).inRound l2).mono ?_; rintro e W6 ⟨rfl, hR6⟩; have c96 := (show Blk W6 b9 31 #[.pointer (some ⟨d, 0, none⟩)] from hR6.thing (t := blkT b9 31 #[.pointer (some ⟨d, 0, none⟩)]) (by simp [ts2])).cell 0; simp only [List.getElem?_toArray, List.getElem?_cons_zero] at c96)
                  | (refine ⟨trivial, no_depth, ?_⟩; gi_at_call 14; refine ((callsIn_wide.2 (run_add (hR6.lit (.cells #[.int .i64 5] 30)) (lit_reads W6 30 (lits [5])) (Nat.le_refl _) (by decide) 1000 z1 z2 z3)).inRound l2).mono ?_; rintro e W8 ⟨rfl, hR8⟩; have k188 : Blk W8 (r + 1 + 1) 4 #[.bool (decide (a < pre.length))] := hR8.thing (t := blkT (r + 1 + 1) 4 #[.bool (decide (a < pre.length))]) (by simp [ts2]); have c188 := k188.cell 0; have z188 := k188.frozen 0; simp only [List.getElem?_toArray, List.getElem?_cons_zero] at c188))
                have hRX := hR8.ch2
                generalize W8.setCell ⟨r + 1 + 1, 0, none⟩ (.bool true) = WX at *
                rw [← e1, ← e2, ← e3] at hRX
                rename_i hnext
                replace hnext := Lib.hid hnext
                clear hR hR6 hR8 k188 c188 z188 c96 e1 e2 e3 z1 z2 z3 heb hak k18 c17 c16 c9 c6
              case' inr =>
                have heb : ((pre.length : Int) == (at_ : Int) % 60) = false := by rw [hae]; simp; omega
                have e1 : alP L g a pre.length = alP L g a (pre.length + 1) := by unfold alP; congr 1; simp; omega
                have e2 : laP la a pre.length = laP la a (pre.length + 1) := by unfold laP; congr 1; simp; omega
                have e3 : decide (a < pre.length) = decide (a < pre.length + 1) := by simp; omega
                gi_upto_region 29 with (fail)
                obtain ⟨WX, hWX⟩ : ∃ WX, WX = W5 := ⟨_, rfl⟩
                rw [e1, e2, e3, ← hWX] at hR
                rw [← hWX]
                have hRX := hR
                rename_i hnext
                replace hnext := Lib.hid hnext
                clear hR e1 e2 e3 heb hak k18 c17 c16 c9 c6 hWX
              all_goals
                have hBX := hBW.out _ _ _ _ hRX
                have hlb : Blk WX (r + 1) 25 #[.slice Av pre.length cv] := (hRX.thing (t := listT (r + 1) 25 0 3 (.slice Av pre.length cv) pre.length (nums (pre.map Cl.id))) (by simp [ts2])).1
                have c17 := hlb.cell 0
                have c0 := (k0.below hBX (by omega)).cell 0
                simp only [List.getElem?_toArray, List.getElem?_cons_zero] at c17 c0
                rcases hy.out with ⟨i, l, hil, rfl, rfl⟩ | hy1
                case' inl =>
                  have hiN := (List.getElem?_eq_some_iff.1 hil).1
                  have hin : i < n := by have := hLl.out; have := hNn'.out; omega
                  obtain ⟨A5, n5, c5, hv, hrd5, hn5, hm5, hx5⟩ := hN.out.at_ i l (hLa.out i l hil)
                  obtain ⟨ad, u, rfl, hab, hu, q5⟩ := hrd.out.at_ (show i < n by omega)
                  have := hu.symm.trans hv
                  cases this
                  have hBwX : Below w.heap.size w WX := hB4.trans (hBX.mono (by omega))
                  have hmd := made_ok A5 n5 c5 B l WX (hrd5.below (hBwX.mono hB)) (Nat.le_trans hB hBwX.size) hm5 hn5 hx5
                  have qX := (hBwX.cell (p := ad.add i) (by rw [block_of_add]; omega)).trans q5
                  have hcl := mkC_len l
                  generalize mkC l = cl at *
                  have x1 : ((2 * i + 1 : Nat) : Int) = 2 * (i : Int) + 1 := by omega
                  rw [x1]
                  have x2 : ((2 * (i : Int) + 1) != 1000) = true := by simp; omega
                  have x3 : (2 * (i : Int) + 1 - 1) / 2 = (i : Int) := by omega
                  have x4 : ¬ (n : Int) ≤ (i : Int) := by omega
                  have x5 : (i : Int) < (n : Int) := by omega
                  have x6 : 0 ≤ (i : Int) := by omega
                  have x7 : (i : Int) ≤ 60 := by omega
                  have x8 : (2 * (i : Int) + 1 - 1).tdiv 2 = (i : Int) := by rw [Int.tdiv_eq_ediv_of_nonneg (by omega)]; exact x3
                  replace hmd := Lib.hid hmd
                  clear hu hv hx5 hrd5 q5 hil
                  gi_wp2_with (first
                    | (refine ⟨trivial, no_depth, ?_⟩; gi_at_call 27; refine ((callsIn_wide.2 hmd.out).inRound l2).mono ?_; rintro e W9 ⟨A8, c8, rfl, hown8, hB8⟩)
                    | (refine ⟨trivial, no_depth, ?_⟩; gi_at_call 26; refine ((callsIn_wide.2 (equal_lits yA A8 cl.length yc c8 cl _ _ W9 (Reads.of_own ((hRX.new hB8).thing (t := rowT V.heap.size 30 1 (.slice yA cl.length yc) cl.length (lits cl)) (by simp))) (Reads.of_own hown8) (by omega))).inRound l2).mono ?_; rintro e W9' ⟨rfl, hB9⟩)
                    | refine ⟨trivial, ?_⟩)
                  have hRE := (hRX.new hB8).new hB9
                  have hxi : (y.id : Int) = 2 * (i : Int) + 1 := by rw [hyi.out]; omega
                  clear hB8 hB9 hmd hown8
                  generalize 2 * (i : Int) + 1 = xid at *
                  generalize W9' = WE at *
                case' inr =>
                  change yid = 1000 at hy1
                  have hxi : (y.id : Int) = 1000 := by rw [hyi.out, hy1]; rfl
                  subst hy1
                  rw [show ((1000 : Nat) : Int) = 1000 from rfl]
                  gi_wp2_with (refine ⟨trivial, ?_⟩)
                  have hRE := hRX
                  generalize (1000 : Int) = xid at *
                  generalize WX = WE at *
              all_goals
                refine hnext.out _ _ ?_
                clear hnext
                have hRE2 := hRE.tail
                clear hRE hRX c17 c0 hBX hlb
                replace hxi := Lib.hid hxi
                have hBE := hBW.out _ _ _ _ hRE2
                obtain ⟨hlb, hrow⟩ : Blk WE (r + 1) 25 #[.slice Av pre.length cv] ∧ WE.ownsRow 0 3 1 (.slice Av pre.length cv) pre.length (nums (pre.map Cl.id)) := hRE2.thing (t := listT (r + 1) 25 0 3 (.slice Av pre.length cv) pre.length (nums (pre.map Cl.id))) (by simp [ts2])
                have c17 := hlb.cell 0
                simp only [List.getElem?_toArray, List.getElem?_cons_zero] at c17
                gi_upto_region 31 with (fail)
                apply wpIn_region_lit
                refine list_lift ?_ _ _ _ (by intro o ho; simp at ho; rcases ho with rfl | rfl | rfl | rfl | rfl <;> intro c hc <;> cases hc) ?_
                · intro a w hh
                  exact hh
                have hnv : some (r + 1) ≠ (Value.slice Av pre.length cv).ownBlock := fun e => own_blk_ne hrow hlb (by decide) e.symm
                have hlr : r + 1 < WE.heap.size := hlb.lt
                go_wp2_with (at_builtin; refine wpList_append_any _ rfl _ _ 25 rfl 0 3 i0 _ 1 8 Try.underlying25 hi hz0 hz1 hz2 rfl (by omega) (.slice Av pre.length cv) pre.length (nums (pre.map Cl.id)) rfl (row_new hrow ((Below.refl _ _).alloc (Nat.le_refl _) _)) (WE.heap.size + 1) (some ⟨WE.heap.size, 0, none⟩) 1 1 [.int .i64 xid] rfl (lit_readsN WE 3 _ 1 rfl) (by simp [Value.oneCell']) (by simp only [maxLen]; omega) (by omega) (by simp) ?_; intro v' w3 hown hgrow hat; obtain ⟨A5, c5, rfl⟩ := own_form hown; have hb3 := (hlb.alloc (.cells #[.int .i64 xid] 3)).grown hgrow hnv; have b3 := hb3.cell 0; have fz3 := hb3.frozen 0; simp only [List.getElem?_toArray, List.getElem?_cons_zero] at b3)
                have hl : (pre ++ [y]).length = pre.length + 1 := by simp
                have hR2 : Run V F (ts2 r b2 b9 d (2 * (g : Int) + 1) (.slice A5 (pre.length + 1) c5) (decide (a < (pre ++ [y]).length)) (pre ++ [y])) d (alP L g a (pre ++ [y]).length) (laP la a (pre ++ [y]).length) (w3.setCell ⟨r + 1, 0, none⟩ (.slice A5 (pre.length + 1) c5)) := by
                  have h9 := Run.pushL hRE2 (by decide) hown hgrow hat
                  rw [hl]
                  unfold ts2
                  rw [List.map_append, List.map_singleton, nums_snoc, hl, hxi.out]
                  exact h9
                obtain ⟨hO, fpa', hF', hm'⟩ := hfin.out _ _ _ _ hR2
                exact ⟨hO, _, ⟨(hO.block Dd hDl hDn).trans hDe0, fpa', _, hF', rfl, hp2.out⟩, hm'⟩
            case fin2 =>
              intro D2 W10 hD2 ⟨hDe, v2, ch, al2, last2, hch, hR2⟩ hDm2
              refine hcont.out _ _ ?_
              clear hcont
              dsimp only
              have hmk : Marks w.heap.size W10 [{ target := .collected D2, args := #[] }, { target := .collected Dd, args := #[] }] :=
                ⟨⟨D2, rfl, by omega, hDm2, fun D3 hm => by simp at hm; subst hm; omega⟩, ⟨Dd, rfl, by omega, hDe, by simp⟩, trivial⟩
              generalize hds : ([{ target := .collected D2, args := #[] }, { target := .collected Dd, args := #[] }] : List Deferred) = ds at hmk ⊢
              have hLN2 := hNn'.out
              rw [← hLN2] at hch hR2
              have hN60' : N ≤ 60 := by rw [hLN2]; exact hN60
              replace hch := Lib.hid hch
              clear hDe hDm2 hds hLN2 hG0 hDm7
              go_wp2_with fail
              go_loopw [21, 124] (fun v i wr => ∃ j : Nat, j ≤ N ∧ i = .int .i64 j ∧ wr.ownsRow W10.heap.size 3 1 v (wantI ch g a j).length (nums (wantI ch g a j)) ∧ Below W10.heap.size W10 wr) (fun _ i _ => N - (intOf i).toNat)
              case atStart => exact ⟨0, by omega, rfl, World.ownsRow_nil _ _ _ _, Below.refl _ _⟩
              case round =>
                obtain ⟨j, hj, rfl, hvw, hBr⟩ := hrel
                obtain ⟨Aw, cw, rfl⟩ := own_form hvw
                have hIr := hR2.new hBr
                have hBw := hIr.below
                have c18 := (show Blk wr (r + 1 + 1) 4 #[.bool ch] from hIr.thing (t := blkT (r + 1 + 1) 4 #[.bool ch]) (by simp)).cell 0
                have c16 := (show Blk wr r 3 #[.int .i64 (2 * (g : Int) + 1)] from hIr.thing (t := blkT r 3 #[.int .i64 (2 * (g : Int) + 1)]) (by simp)).cell 0
                have c6 := (k2.below hBw (by omega)).cell 0
                simp only [List.getElem?_toArray, List.getElem?_cons_zero] at c18 c16 c6
                have hwl := wantI_len ch g a j
                have jx : ((2 * j + 1 : Nat) : Int) = 2 * (j : Int) + 1 := by omega
                by_cases hlt : j < N
                · have t1 : (j : Int) < (N : Int) := by omega
                  have t2 : 0 ≤ (j : Int) := by omega
                  have t3 : (j : Int) ≤ 60 := by omega
                  by_cases hc1 : ch = true
                  · by_cases hc2 : j = g
                    · by_cases hc3 : j ≤ a
                      · have hpq : wantI ch g a (j + 1) = wantI ch g a j ++ [2 * j + 1] := by rw [wantI_snoc, if_pos (by simp; omega)]
                        have u2 : ((2 * (j : Int) + 1) != (2 * (g : Int) + 1)) = false := by simp; omega
                        have u3 : decide ((j : Int) ≤ (at_ : Int) % 60) = true := by rw [hae]; simp; omega
                        have u4 : (j : Int) ≤ (at_ : Int) % 60 := by rw [hae]; omega
                        clear hc2 hc3
                        subst hc1
                        replace hpq := Lib.hid hpq
                        go_wp2_with (at_builtin; refine wpList_append_any _ rfl _ _ 25 rfl W10.heap.size 3 i0 _ 1 8 Try.underlying25 hi hz0 hz1 hz2 rfl (by omega) (.slice Aw (wantI true g a j).length cw) (wantI true g a j).length (nums (wantI true g a j)) rfl (row_new hvw ((Below.refl _ _).alloc (Nat.le_refl _) _)) (wr.heap.size + 1) (some ⟨wr.heap.size, 0, none⟩) 1 1 [.int .i64 (2 * (j : Int) + 1)] rfl (lit_readsN wr 3 _ 1 rfl) (by simp [Value.oneCell']) (by simp only [maxLen]; omega) (by omega) (by simp; have := hBr.size; omega) ?_; intro v' w3 hown hgrow hat; have hB3 := own_below (hBr.alloc hBr.size _) (by simp; have := hBr.size; omega) (row_new hvw ((Below.refl _ _).alloc (Nat.le_refl _) _)) hgrow)
                        go_roundw
                        case rel => exact ⟨j + 1, by omega, by go_num, own_cast hown (by rw [hpq.out]; simp) (by rw [hpq.out, nums_snoc, jx]), hB3⟩
                        case measure => simp [intOf]; omega
                      · have hpq : wantI ch g a (j + 1) = wantI ch g a j := by rw [wantI_snoc, if_neg (by simp [hc1, hc2]; omega), List.append_nil]
                        have u2 : ((2 * (j : Int) + 1) != (2 * (g : Int) + 1)) = false := by simp; omega
                        have u3 : decide ((j : Int) ≤ (at_ : Int) % 60) = false := by rw [hae]; simp; omega
                        have u4 : ¬ (j : Int) ≤ (at_ : Int) % 60 := by rw [hae]; omega
                        subst hc1
                        replace hpq := Lib.hid hpq
                        clear hc2
                        go_wp2_with fail
                        go_roundw
                        case rel => exact ⟨j + 1, by omega, by go_num, own_cast hvw (by rw [hpq.out]) (by rw [hpq.out]), hBr⟩
                        case measure => simp [intOf]; omega
                    · have hpq : wantI ch g a (j + 1) = wantI ch g a j ++ [2 * j + 1] := by rw [wantI_snoc, if_pos (by simp; omega)]
                      have u2 : ((2 * (j : Int) + 1) != (2 * (g : Int) + 1)) = true := by simp; omega
                      subst hc1
                      replace hpq := Lib.hid hpq
                      go_wp2_with (at_builtin; refine wpList_append_any _ rfl _ _ 25 rfl W10.heap.size 3 i0 _ 1 8 Try.underlying25 hi hz0 hz1 hz2 rfl (by omega) (.slice Aw (wantI true g a j).length cw) (wantI true g a j).length (nums (wantI true g a j)) rfl (row_new hvw ((Below.refl _ _).alloc (Nat.le_refl _) _)) (wr.heap.size + 1) (some ⟨wr.heap.size, 0, none⟩) 1 1 [.int .i64 (2 * (j : Int) + 1)] rfl (lit_readsN wr 3 _ 1 rfl) (by simp [Value.oneCell']) (by simp only [maxLen]; omega) (by omega) (by simp; have := hBr.size; omega) ?_; intro v' w3 hown hgrow hat; have hB3 := own_below (hBr.alloc hBr.size _) (by simp; have := hBr.size; omega) (row_new hvw ((Below.refl _ _).alloc (Nat.le_refl _) _)) hgrow)
                      go_roundw
                      case rel => exact ⟨j + 1, by omega, by go_num, own_cast hown (by rw [hpq.out]; simp) (by rw [hpq.out, nums_snoc, jx]), hB3⟩
                      case measure => simp [intOf]; omega
                  · have hpq : wantI ch g a (j + 1) = wantI ch g a j ++ [2 * j + 1] := by rw [wantI_snoc, if_pos (by simp [hc1])]
                    have hc1 : ch = false := by simpa using hc1
                    subst hc1
                    replace hpq := Lib.hid hpq
                    go_wp2_with (at_builtin; refine wpList_append_any _ rfl _ _ 25 rfl W10.heap.size 3 i0 _ 1 8 Try.underlying25 hi hz0 hz1 hz2 rfl (by omega) (.slice Aw (wantI false g a j).length cw) (wantI false g a j).length (nums (wantI false g a j)) rfl (row_new hvw ((Below.refl _ _).alloc (Nat.le_refl _) _)) (wr.heap.size + 1) (some ⟨wr.heap.size, 0, none⟩) 1 1 [.int .i64 (2 * (j : Int) + 1)] rfl (lit_readsN wr 3 _ 1 rfl) (by simp [Value.oneCell']) (by simp only [maxLen]; omega) (by omega) (by simp; have := hBr.size; omega) ?_; intro v' w3 hown hgrow hat; have hB3 := own_below (hBr.alloc hBr.size _) (by simp; have := hBr.size; omega) (row_new hvw ((Below.refl _ _).alloc (Nat.le_refl _) _)) hgrow)
                    go_roundw
                    case rel => exact ⟨j + 1, by omega, by go_num, own_cast hown (by rw [hpq.out]; simp) (by rw [hpq.out, nums_snoc, jx]), hB3⟩
                    case measure => simp [intOf]; omega
                · obtain rfl : N = j := by omega
                  have hlw : (wantF ch g a N).length ≤ 61 := by unfold wantF; rw [List.length_append]; have := wantI_len ch g a N; cases ch <;> simp <;> omega
                  rcases hcx : ch with _ | _
                  case' false =>
                    subst hcx
                    have hwf : wantI false g a N = wantF false g a N := by simp [wantF]
                    rw [hwf] at hvw
                    go_upto_region 41 with fail
                    rw [hwf]
                    obtain ⟨WE, hWE⟩ : ∃ WE, WE = wr := ⟨_, rfl⟩
                    rw [← hWE] at hvw hBr ⊢
                    have hBE := hBr
                    have hvE := hvw
                    obtain ⟨AE, hAE⟩ : ∃ AE, AE = Aw := ⟨_, rfl⟩
                    obtain ⟨cE, hcE⟩ : ∃ cE, cE = cw := ⟨_, rfl⟩
                    rw [← hAE, ← hcE] at hvE ⊢
                    clear hvw hWE hAE hcE hwl hwf
                    generalize wantF false g a N = wl at *
                  case' true =>
                    subst hcx
                    have hwf : wantI true g a N ++ [1000] = wantF true g a N := by simp [wantF]
                    go_upto_region 41 with (at_builtin; refine wpList_append_any _ rfl _ _ 25 rfl W10.heap.size 3 i0 _ 1 8 Try.underlying25 hi hz0 hz1 hz2 rfl (by omega) (.slice Aw (wantI true g a N).length cw) (wantI true g a N).length (nums (wantI true g a N)) rfl (row_new hvw ((Below.refl _ _).alloc (Nat.le_refl _) _)) (wr.heap.size + 1) (some ⟨wr.heap.size, 0, none⟩) 1 1 [.int .i64 1000] rfl (lit_readsN wr 3 _ 1 rfl) (by simp [Value.oneCell']) (by simp only [maxLen]; omega) (by omega) (by simp; have := hBr.size; omega) ?_; intro v' w3 hown hgrow hat; have hB3 := own_below (hBr.alloc hBr.size _) (by simp; have := hBr.size; omega) (row_new hvw ((Below.refl _ _).alloc (Nat.le_refl _) _)) hgrow)
                    obtain ⟨AE, cE, rfl⟩ := own_form hown
                    have hwl2 : (wantI true g a N).length + 1 = (wantF true g a N).length := by rw [← hwf]; simp
                    have hvE : w3.ownsRow W10.heap.size 3 1 (.slice AE ((wantI true g a N).length + 1) cE) ((wantI true g a N).length + 1) (nums (wantF true g a N)) := own_cast hown rfl (by rw [← hwf, nums_snoc]; rfl)
                    rw [hwl2] at hvE ⊢
                    have hBE := hB3
                    clear hown hgrow hat hB3 hvw hwl2 hwl hwf
                    generalize wantF true g a N = wl at *
                    generalize w3 = WE at *
                  all_goals
                    have hIE := hR2.new hBE
                    clear hR2 hIr
                    obtain ⟨hlb, hrow⟩ : Blk WE (r + 1) 25 #[v2] ∧ WE.ownsRow 0 3 1 v2 wl.length (nums wl) := hIE.thing (t := listT (r + 1) 25 0 3 v2 wl.length (nums wl)) (by simp)
                    obtain ⟨Av2, cv2, rfl⟩ := own_form hrow
                    have hEq := equal_nums Av2 AE wl.length cv2 cE wl _ _ WE (Reads.of_own hrow) (Reads.of_own hvE) (by omega)
                    have c17 := hlb.cell 0
                    simp only [List.getElem?_toArray, List.getElem?_cons_zero] at c17
                    have k8 := k3.below hIE.below (by omega)
                    have hbw2 := hB4.trans (hIE.below.mono (by omega))
                    have hmk2 : Marks w.heap.size WE ds := hmk.only (only_of_below [] hBE) (by simp)
                    replace hEq := Lib.hid hEq
                    clear hrow hvE hlb hmk hIE
                    go_wp2_with (first
                      | (go_at_call 28; refine hEq.out.mono ?_; rintro e W6 ⟨rfl, hB6⟩)
                      | (go_at_call 12; refine (awake_ok _).mono ?_; rintro e W11 ⟨rfl, hB11⟩; have hr11 := (k8.below hB6 k8.lt).below hB11 (k8.below hB6 k8.lt).lt; have c11 := hr11.cell 0; have f11 := hr11.frozen 0; simp only [List.getElem?_toArray, List.getElem?_cons_zero] at c11))
                    have hm11 := (hmk2.only (only_of_below [] hB6) (by simp)).only (only_of_below [] hB11) (by simp)
                    have hm12 := hm11.only (fp := [w.heap.size + 1 + 1 + 1]) ((Only.refl [w.heap.size + 1 + 1 + 1] W11).setCell (p := ⟨w.heap.size + 1 + 1 + 1, 0, none⟩) (.inl (by simp)) (.bool true)) (fun i o hi ho => by rw [List.mem_singleton] at hi; subst hi; exact blk_cells hr11 ho)
                    have hb11 := (hbw2.trans (hB6.mono hbw2.size)).trans (hB11.mono (Nat.le_trans hbw2.size hB6.size))
                    have hb12 := hb11.setCell (p := ⟨w.heap.size + 1 + 1 + 1, 0, none⟩) (by show w.heap.size ≤ w.heap.size + 1 + 1 + 1; omega) (.bool true)
                    have hr12 := hr11.set_ 0 (.bool true)
                    refine leaves_marks hm12 (fun W12 k12 => ⟨.bool true, ?_, rfl, below_ck hb12 (Nat.le_refl _) k12 (Nat.le_refl _)⟩)
                    have c12 := (hr12.ck k12).cell 0
                    simp at c12
                    simp [results, Try.results6, go_sem, c12]
theorem law_yields {A : Option Addr} {n c B : Nat} {ll : List (List Int)} {vs : List Value} (w : World) (hrd : Reads w B 1 A n vs) (hN : Nest w B vs ll) (hB : B ≤ w.heap.size) (hm : n ≤ 9223372036854775807) (hc : n ≤ c)
    (s at_ gn : Nat) (hs : s ≤ 255) (hat_ : at_ ≤ 255) (hgn : gn ≤ 255) :
    Calls Try.prog 6 #[.slice A n c, .int .u8 (s : Int), .int .u8 (at_ : Int), .int .u8 (gn : Int)] w fun e w' => e = .returned (.bool true) ∧ Below w.heap.size w w' :=
  callsIn_wide.1 (yields_in 3 (by omega) w hrd hN hB hm hc s at_ gn hs hat_ hgn)
end Go.Proofs.Ytlcfgpkokaiogaa
