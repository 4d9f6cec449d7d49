/- Lemmas for salvor/salvorlaw29.TreeSmall (part 13); no condition. -/
import Derived.Test.YtnldbplphgfpeaaGreatP05
import Derived.Test.YtnldbplphgfpeaaGreatP04
import Derived.Test.YtnldbplphgfpeaaGreatP09
namespace Go.Proofs.YtnldbplphgfpeaaGreat
open Go Go.RowKit Go.Shelf
set_option linter.unusedVariables false
set_option linter.unusedSimpArgs false
def upd (x : Nat → Value) (p : Nat) (v : Value) : Nat → Value := fun k => bif k == p then v else x k
def seen (l : List Nat) (x : Nat → Value) : Nat → Value := fun k => bif l.contains k then x k else undef
theorem beqF {k p : Nat} (h : k ≠ p) : (k == p) = false := by simpa using h
theorem upd_self (x : Nat → Value) (p : Nat) (v : Value) : upd x p v p = v := by simp [upd]
theorem upd_ne (x : Nat → Value) {p k : Nat} (v : Value) (h : k ≠ p) : upd x p v k = x k := by
 unfold upd
 rw [beqF h]
 rfl
theorem seen_upd {l : List Nat} {p : Nat} (x : Nat → Value) (v : Value) (h : p ∉ l) : seen l (upd x p v) = seen l x := by
 funext k
 unfold seen
 cases hk : l.contains k
 ·rfl
 ·have hm : k ∈ l := List.contains_iff_mem.1 hk
  exact upd_ne x v (fun e => h (e ▸ hm))
def updN (x : Nat → Nat) (p n : Nat) : Nat → Nat := fun k => bif k == p then n else x k
theorem updN_self (x : Nat → Nat) (p n : Nat) : updN x p n p = n := by simp [updN]
theorem updN_ne (x : Nat → Nat) {p k : Nat} (n : Nat) (h : k ≠ p) : updN x p n k = x k := by
 unfold updN
 rw [beqF h]
 rfl
structure BagOp where
 i : Nat
 deps : List Nat
 F : (Nat → Value) → Nat → Nat → World → Prop
 st : ∀ x lo hi w w', hi ≤ w.heap.size → Below w.heap.size w w' → F x lo hi w → F x lo hi w'
def puts : List (Option Tmp) → Nat → Array Value → (Nat → Value) → Array Value
 | [], _, t, _ => t
 | none :: r, p, t, x => puts r (p + 1) t x
 | some d :: r, p, t, x => puts r (p + 1) (t.setIfInBounds d (x p)) x
theorem puts_size : ∀ (ds : List (Option Tmp)) (p : Nat) (t : Array Value) (x : Nat → Value), (puts ds p t x).size = t.size
 | [], _, _, _ => rfl
 | none :: r, p, t, x => puts_size r _ t x
 | some d :: r, p, t, x => (puts_size r _ _ x).trans (by simp)
theorem idx_none {r : List (Option Tmp)} {d : Tmp} (h : d ∉ r.filterMap id) : r.findIdx? (· == some d) = none := by
 rw [List.findIdx?_eq_none_iff]
 intro y hy
 cases y with
 | none => rfl
 | some y => 
  have : y ≠ d := fun e => h (by rw [← e]; exact List.mem_filterMap.2 ⟨_, hy, rfl⟩)
  simpa using this
theorem puts_get : ∀ (ds : List (Option Tmp)) (p : Nat) (t : Array Value) (x : Nat → Value), (ds.filterMap id).Nodup → ∀ k, (puts ds p t x)[k]? = match ds.findIdx? (· == some k) with | some q => if k < t.size then some (x (p + q)) else none | none => t[k]?
 | [], _, _, _, _, _ => rfl
 | none :: r, p, t, x, hn, k => by
  have ih := puts_get r (p + 1) t x (by simpa using hn) k
  rw [show puts (none :: r) p t x = puts r (p + 1) t x from rfl, ih, List.findIdx?_cons]
  cases hr : r.findIdx? (· == some k) with
  | none => rfl
  | some q => simp [Nat.add_assoc, Nat.add_comm 1 q]
 | some d :: r, p, t, x, hn, k => by
  have hn' : d ∉ r.filterMap id ∧ (r.filterMap id).Nodup := by simpa using hn
  have ih := puts_get r (p + 1) (t.setIfInBounds d (x p)) x hn'.2 k
  rw [show puts (some d :: r) p t x = puts r (p + 1) (t.setIfInBounds d (x p)) x from rfl, ih, List.findIdx?_cons]
  by_cases hd : d = k
  ·subst hd
   rw [idx_none hn'.1]
   simp [Array.getElem?_setIfInBounds]
  ·have hb : (some d == some k) = false := by simpa using hd
   rw [hb]
   cases hr : r.findIdx? (· == some k) with
   | none => simp [Array.getElem?_setIfInBounds, hd]
   | some q => simp [Nat.add_assoc, Nat.add_comm 1 q]
theorem idx_some {ds : List (Option Tmp)} (hn : (ds.filterMap id).Nodup) {p : Nat} {d : Tmp} (h : ds[p]? = some (some d)) : ds.findIdx? (· == some d) = some p := by
 induction ds generalizing p with
 | nil => simp at h
 | cons c r ih =>
  rw [List.findIdx?_cons]
  cases p with
  | zero => simp at h; subst h; simp
  | succ p =>
   have hr : r[p]? = some (some d) := by simpa using h
   cases c with
   | none => rw [ih (by simpa using hn) hr]; rfl
   | some c =>
    have hn' : c ∉ r.filterMap id ∧ (r.filterMap id).Nodup := by simpa using hn
    have hc : c ≠ d := fun e => hn'.1 (by rw [e]; exact List.mem_filterMap.2 ⟨_, List.mem_of_getElem? hr, rfl⟩)
    rw [show (some c == some d) = false from by simpa using hc, ih hn'.2 hr]; rfl
theorem idx_at {ds : List (Option Tmp)} {k : Tmp} {q : Nat} (h : ds.findIdx? (· == some k) = some q) : ds[q]? = some (some k) := by
 rw [List.findIdx?_eq_some_iff_getElem] at h
 obtain ⟨hq, he, _⟩ := h
 rw [List.getElem?_eq_getElem hq]
 simpa using he
theorem puts_put {ds : List (Option Tmp)} (hn : (ds.filterMap id).Nodup) {p : Nat} {d : Tmp} (h : ds[p]? = some (some d)) (t : Array Value) (x : Nat → Value) (v : Value) : (puts ds 0 t x).setIfInBounds d v = puts ds 0 t (upd x p v) := by
 apply Array.ext_getElem?
 intro k
 rw [puts_get ds 0 t _ hn, Array.getElem?_setIfInBounds, puts_size]
 by_cases hk : d = k
 ·subst hk
  rw [idx_some hn h]
  simp [upd_self]
 ·rw [if_neg hk, puts_get ds 0 t _ hn]
  cases hq : ds.findIdx? (· == some k) with
  | none => rfl
  | some q =>
   have hqp : q ≠ p := fun e => by
    have := idx_at hq
    rw [e, h] at this
    exact hk (by simpa using this)
   simp [upd_ne x v hqp]
theorem puts_none {ds : List (Option Tmp)} (hn : (ds.filterMap id).Nodup) {p : Nat} (h : ds[p]? = some none) (t : Array Value) (x : Nat → Value) (v : Value) : puts ds 0 t x = puts ds 0 t (upd x p v) := by
 apply Array.ext_getElem?
 intro k
 rw [puts_get ds 0 t _ hn, puts_get ds 0 t _ hn]
 cases hq : ds.findIdx? (· == some k) with
 | none => rfl
 | some q =>
  have hqp : q ≠ p := fun e => by
   have := idx_at hq
   rw [e, h] at this
   cases this
  simp [upd_ne x v hqp]
theorem puts_init {ds : List (Option Tmp)} (hn : (ds.filterMap id).Nodup) (t : Array Value) : ∃ x, puts ds 0 t x = t := by
 refine ⟨fun p => match ds[p]? with | some (some d) => t.getD d undef | _ => undef, ?_⟩
 apply Array.ext_getElem?
 intro k
 rw [puts_get ds 0 t _ hn]
 cases hq : ds.findIdx? (· == some k) with
 | none => rfl
 | some q =>
  have := idx_at hq
  simp only [Nat.zero_add, this]
  by_cases hk : k < t.size
  ·simp [hk]
  ·simp [hk]
def slot (L : List Oper) (i : Nat) : Option Tmp := (L[i]?).bind (·.dst)
def bagAct (ds : List (Option Tmp)) (a : Act) (x : Nat → Value) : Act := { a with tmps := puts ds 0 a.tmps x }
def sets (listed : Array Bool) (is : List Nat) : Array Bool := is.foldl (fun l i => l.setIfInBounds i true) listed
theorem sets_get : ∀ (is : List Nat) (l : Array Bool) (k : Nat), (sets l is)[k]? = if k ∈ is ∧ k < l.size then some true else l[k]?
 | [], l, k => by simp [sets]
 | i :: r, l, k => by
  have ih := sets_get r (l.setIfInBounds i true) k
  rw [show sets l (i :: r) = sets (l.setIfInBounds i true) r from rfl, ih, Array.size_setIfInBounds, Array.getElem?_setIfInBounds]
  by_cases h1 : k ∈ r <;> by_cases h2 : k < l.size <;> by_cases h3 : i = k <;> simp_all
  all_goals (intro e; exact absurd e.symm h3)
section
variable (md : Region.Mode) (L : List Oper) (listed : Array Bool)
def aftB (j : Nat) (f : Edge → Bool) : Bool := match L[j]? with | some o => o.after.toList.any fun e => Region.binds md e && f e | none => false
def waitsB : Nat → Nat → Nat → Bool
 | 0, j, k => aftB md L j (fun e => e.on == k)
 | f + 1, j, k => aftB md L j (fun e => e.on == k) || aftB md L j (fun e => !listed.getD e.on true && waitsB f e.on k)
def bagOk (is : List Nat) (deps : List (List Nat)) : Bool :=
 decide is.Nodup && decide ((is.map (slot L)).filterMap id).Nodup && decide (listed.size = L.length) && is.all (fun i => decide (i < L.length) && !listed.getD i true)
 && (List.range is.length).all (fun p => (deps.getD p []).all fun q => decide (q ≠ p) && decide (q < is.length) && aftB md L (is.getD p 0) (fun e => e.on == is.getD q 0))
 && (List.range L.length).all (fun j => (listed.getD j true || is.contains j || is.all (waitsB md L listed 10 j)) && !aftB md L j (fun e => decide (j ≤ e.on)))
end
section
variable {P : Program} {md : Region.Mode} {L : List Oper} {Q : Exit → Act → World → Prop} {S : World → Prop} {listed : Array Bool}
theorem aftB_true {j : Nat} {f : Edge → Bool} : aftB md L j f = true ↔ ∃ o, L[j]? = some o ∧ ∃ e ∈ o.after, Region.binds md e = true ∧ f e = true := by
 unfold aftB
 cases L[j]? with
 | none => simp
 | some o => simp only [List.any_eq_true, Array.mem_toList_iff, Bool.and_eq_true, Option.some.injEq, exists_eq_left']
def BagFact (o : BagOp) (p : Nat) (x : Nat → Value) (lo hi : Nat → Nat) (W : World) : Prop := o.F (seen (p :: o.deps) x) (lo p) (hi p) W
def BagSteps (P : Program) (L : List Oper) (Q : Exit → Act → World → Prop) (ds : List (Option Tmp)) (bag : List BagOp) (a : Act) (w : World) : Nat → List BagOp → Prop
 | _, [] => True
 | p, o :: r => (∃ oi, L[o.i]? = some oi ∧ oi.guard = none ∧ ∀ x lo hi W, Below w.heap.size w W → (∀ q o', o.deps.contains q = true → bag[q]? = some o' → w.heap.size ≤ lo q ∧ hi q ≤ W.heap.size ∧ BagFact o' q x lo hi W) →
   ∀ K, Shut (∀ v W', Below W.heap.size W W' → o.F (seen (p :: o.deps) (upd x p v)) W.heap.size W'.heap.size W' → K ((bagAct ds a x).put oi.dst v) W') → Oper.wp P oi (bagAct ds a x) W K Q) ∧ BagSteps P L Q ds bag a w (p + 1) r
theorem BagSteps.nil {ds : List (Option Tmp)} {bag : List BagOp} {a : Act} {w : World} {p : Nat} : BagSteps P L Q ds bag a w p [] := trivial
theorem BagSteps.cons {ds : List (Option Tmp)} {bag : List BagOp} {a : Act} {w : World} {p : Nat} {o : BagOp} {r : List BagOp} {oi : Oper} (hi : L[o.i]? = some oi) (hg : oi.guard = none) (h : ∀ x lo hi W, Below w.heap.size w W → (∀ q o', o.deps.contains q = true → bag[q]? = some o' → w.heap.size ≤ lo q ∧ hi q ≤ W.heap.size ∧ BagFact o' q x lo hi W) →
   ∀ K, Shut (∀ v W', Below W.heap.size W W' → o.F (seen (p :: o.deps) (upd x p v)) W.heap.size W'.heap.size W' → K ((bagAct ds a x).put oi.dst v) W') → Oper.wp P oi (bagAct ds a x) W K Q) (t : BagSteps P L Q ds bag a w (p + 1) r) : BagSteps P L Q ds bag a w p (o :: r) := ⟨⟨oi, hi, hg, h⟩, t⟩
theorem BagSteps.at_ {ds : List (Option Tmp)} {bag : List BagOp} {a : Act} {w : World} : ∀ {l : List BagOp} {s : Nat}, BagSteps P L Q ds bag a w s l → ∀ {p : Nat} {o : BagOp}, l[p]? = some o → ∃ oi, L[o.i]? = some oi ∧ oi.guard = none ∧ ∀ x lo hi W, Below w.heap.size w W → (∀ q o', o.deps.contains q = true → bag[q]? = some o' → w.heap.size ≤ lo q ∧ hi q ≤ W.heap.size ∧ BagFact o' q x lo hi W) →
   ∀ K, Shut (∀ v W', Below W.heap.size W W' → o.F (seen ((s + p) :: o.deps) (upd x (s + p) v)) W.heap.size W'.heap.size W' → K ((bagAct ds a x).put oi.dst v) W') → Oper.wp P oi (bagAct ds a x) W K Q
 | [], _, _, _, _, h => by simp at h
 | o' :: r, s, h, 0, o, he => by
  have : o' = o := by simpa using he
  subst this
  exact h.1
 | o' :: r, s, h, p + 1, o, he => by
  have := BagSteps.at_ h.2 (p := p) (o := o) (by simpa using he)
  rw [show s + 1 + p = s + (p + 1) from by omega] at this
  exact this
structure BagEnd (bag : List BagOp) (w : World) (x : Nat → Value) (lo hi : Nat → Nat) (W : World) : Prop where
 b : Below w.heap.size w W
 f : ∀ p o, bag[p]? = some o → w.heap.size ≤ lo p ∧ hi p ≤ W.heap.size ∧ BagFact o p x lo hi W
 d : ∀ p q, p < bag.length → q < bag.length → p ≠ q → hi p ≤ lo q ∨ hi q ≤ lo p
structure BagIn (md : Region.Mode) (L : List Oper) (listed : Array Bool) (is : List Nat) (bag : List BagOp) (a : Act) (w : World) (R : List Nat) (T : Array Bool) (x : Nat → Value) (lo hi : Nat → Nat) (W : World) : Prop where
 b : Below w.heap.size w W
 f : ∀ p o, bag[p]? = some o → p ∉ R → w.heap.size ≤ lo p ∧ hi p ≤ W.heap.size ∧ BagFact o p x lo hi W
 d : ∀ p q, p < bag.length → q < bag.length → p ∉ R → q ∉ R → p ≠ q → hi p ≤ lo q ∨ hi q ≤ lo p
 n : R.Nodup
 lt : ∀ p ∈ R, p < bag.length
 sz : T.size = listed.size
 out : ∀ j, j ∉ is → T[j]? = listed[j]?
 yet : ∀ p i, is[p]? = some i → p ∈ R → T[i]? = some false
 done : ∀ p i, is[p]? = some i → p ∉ R → T[i]? = some true
 cl : ∀ p i o, is[p]? = some i → p ∉ R → L[i]? = some o → ∀ e ∈ o.after, Region.binds md e = true → T.getD e.on false = true
theorem waitsB_spec {is : List Nat} {bag : List BagOp} {a : Act} {w : World} {R : List Nat} {T : Array Bool} {x : Nat → Value} {lo hi : Nat → Nat} {W : World} (h : BagIn md L listed is bag a w R T x lo hi W) {k : Nat} (hk : T.getD k false = false) : ∀ (f j : Nat), waitsB md L listed f j k = true → ∃ o, L[j]? = some o ∧ ∃ e ∈ o.after, Region.binds md e = true ∧ T.getD e.on false = false := by
 have hd : ∀ j, aftB md L j (fun e => e.on == k) = true → ∃ o, L[j]? = some o ∧ ∃ e ∈ o.after, Region.binds md e = true ∧ T.getD e.on false = false := fun j hj => by
  obtain ⟨o, ho, e, he, hb, hf⟩ := aftB_true.1 hj
  exact ⟨o, ho, e, he, hb, by rw [show e.on = k from by simpa using hf]; exact hk⟩
 intro f
 induction f with
 | zero => exact fun j hj => hd j hj
 | succ f ih =>
  intro j hj
  unfold waitsB at hj
  rcases Bool.or_eq_true_iff.1 hj with hj | hj
  ·exact hd j hj
  ·obtain ⟨o, ho, e, he, hb, hf⟩ := aftB_true.1 hj
   obtain ⟨h1, h2⟩ := Bool.and_eq_true_iff.1 hf
   obtain ⟨o2, ho2, e2, he2, hb2, hf2⟩ := ih e.on h2
   refine ⟨o, ho, e, he, hb, ?_⟩
   cases ht : T.getD e.on false
   ·rfl
   ·exfalso
    have hl : listed.getD e.on true = false := by simpa using h1
    by_cases hm : e.on ∈ is
    ·obtain ⟨p, hp⟩ := List.getElem?_of_mem hm
     by_cases hr : p ∈ R
     ·have := h.yet p _ hp hr
      simp [Array.getD_eq_getD_getElem?, this] at ht
     ·have := h.cl p _ _ hp hr ho2 e2 he2 hb2
      rw [hf2] at this; cases this
    ·have := h.out _ hm
     rw [Array.getD_eq_getD_getElem?, this] at ht
     rw [Array.getD_eq_getD_getElem?] at hl
     cases hq : listed[e.on]? with
     | none => rw [hq] at ht; simp at ht
     | some b => rw [hq] at ht hl; simp at ht hl; rw [ht] at hl; cases hl
theorem bag_any (is : List Nat) (ds : List (Option Tmp)) (bag : List BagOp) {a : Act} {w : World} {fuel : Nat} (his : bag.map (·.i) = is) (hds : is.map (slot L) = ds) (hok : bagOk md L listed is (bag.map (·.deps)) = true) (hS : ∀ W, Below w.heap.size w W → S W)
  (hstep : BagSteps P L Q ds bag a w 0 bag)
  (hend : ∀ x lo hi W, BagEnd bag w x lo hi W → S W → wpAnyH P md L.toArray Q S fuel (sets listed is) (bagAct ds a x) W) : wpAnyH P md L.toArray Q S (fuel + bag.length) listed a w := by
 unfold bagOk at hok
 simp only [Bool.and_eq_true, decide_eq_true_eq, List.all_eq_true, List.mem_range, Bool.not_eq_true', Bool.or_eq_true, List.contains_iff_mem] at hok
 obtain ⟨⟨⟨⟨⟨hn, hsl⟩, hsz⟩, hun⟩, hde⟩, hall⟩ := hok
 rw [hds] at hsl
 have hlen : is.length = bag.length := by rw [← his]; simp
 have hbi : ∀ {p : Nat} {o : BagOp}, bag[p]? = some o → is[p]? = some o.i := fun {p o} h => by rw [← his]; simp [h]
 have main : ∀ (r : Nat) (R : List Nat) (T : Array Bool) (x : Nat → Value) (lo hi : Nat → Nat) (W : World), R.length = r → BagIn md L listed is bag a w R T x lo hi W → wpAnyH P md L.toArray Q S (fuel + r) T (bagAct ds a x) W := by
  intro r
  induction r with
  | zero =>
   intro R T x lo hi W hr h
   have hR : R = [] := List.length_eq_zero_iff.1 hr
   subst hR
   have hT : T = sets listed is := by
    apply Array.ext_getElem?
    intro k
    rw [sets_get]
    by_cases hk : k ∈ is
    ·obtain ⟨p, hp⟩ := List.getElem?_of_mem hk
     rw [h.done p k hp (by simp), if_pos ⟨hk, by rw [hsz]; exact (hun k hk).1⟩]
    ·rw [if_neg (fun e => hk e.1)]
     exact h.out k hk
   rw [hT]
   exact hend x lo hi W ⟨h.b, fun p o ho => h.f p o ho (by simp), fun p q hp hq => h.d p q hp hq (by simp) (by simp)⟩ (hS W h.b)
  | succ r ih =>
   intro R T x lo hi W hr h
   obtain ⟨p0, hp0⟩ : ∃ p, p ∈ R := by
    cases R with
    | nil => simp at hr
    | cons p _ => exact ⟨p, by simp⟩
   have hp0l := h.lt p0 hp0
   obtain ⟨i0, hi0⟩ : ∃ i, is[p0]? = some i := ⟨_, List.getElem?_eq_getElem (by rw [hlen]; exact hp0l)⟩
   have hi0f := h.yet p0 i0 hi0 hp0
   have hready : ∀ j, j ∈ Region.ready md L.toArray T → ∃ p o, p ∈ R ∧ bag[p]? = some o ∧ o.i = j := fun j hj => by
    obtain ⟨hu, oj, hoj, hall'⟩ := mem_ready.1 hj
    have hoj' : L[j]? = some oj := by simpa using hoj
    have hjl : j < L.length := (List.getElem?_eq_some_iff.1 hoj').1
    by_cases hm : j ∈ is
    ·obtain ⟨p, hp⟩ := List.getElem?_of_mem hm
     have hpl : p < bag.length := by rw [← hlen]; exact (List.getElem?_eq_some_iff.1 hp).1
     have hpo := List.getElem?_eq_getElem hpl
     refine ⟨p, bag[p], ?_, hpo, ?_⟩
     ·refine Classical.byContradiction fun hc => ?_
      have := h.done p j hp hc
      rw [Array.getD_eq_getD_getElem?, this] at hu
      cases hu
     ·have := hbi hpo
      rw [hp] at this
      exact (Option.some.inj this).symm
    ·exfalso
     rcases (hall j hjl).1 with (hl | hl) | hl
     ·have := h.out j hm
      rw [Array.getD_eq_getD_getElem?, this, ← Array.getD_eq_getD_getElem?, hl] at hu
      cases hu
     ·exact hm hl
     ·obtain ⟨o', ho', e, he, hb, hf⟩ := waitsB_spec h (k := i0) (by rw [Array.getD_eq_getD_getElem?, hi0f]; rfl) 10 j (hl i0 (List.mem_of_getElem? hi0))
      rw [hoj'] at ho'
      cases ho'
      rw [hall' e he hb] at hf
      cases hf
   have hne : Region.ready md L.toArray T ≠ [] := by
    have hex : ∃ j, j < L.length ∧ T.getD j true = false := ⟨i0, (hun i0 (List.mem_of_getElem? hi0)).1, by rw [Array.getD_eq_getD_getElem?, hi0f]; rfl⟩
    obtain ⟨j, hjP, hmin⟩ : ∃ j, (j < L.length ∧ T.getD j true = false) ∧ ∀ k, k < j → ¬ (k < L.length ∧ T.getD k true = false) := by
     have : ∀ n, (∃ j, j < n ∧ j < L.length ∧ T.getD j true = false) → ∃ j, (j < L.length ∧ T.getD j true = false) ∧ ∀ k, k < j → ¬ (k < L.length ∧ T.getD k true = false) := by
      intro n
      induction n with
      | zero => rintro ⟨j, hj, _⟩; exact absurd hj (Nat.not_lt_zero _)
      | succ n ihn =>
       rintro ⟨j, hj, hP⟩
       by_cases hx : ∃ j, j < n ∧ j < L.length ∧ T.getD j true = false
       ·exact ihn hx
       ·exact ⟨j, hP, fun k hk hP' => hx ⟨k, by omega, hP'⟩⟩
     obtain ⟨j, hj⟩ := hex
     exact this (j + 1) ⟨j, by omega, hj⟩
    intro he
    have hmem : j ∈ Region.ready md L.toArray T := mem_ready.2 ⟨hjP.2, L[j]'hjP.1, by simp [hjP.1], fun e hee hb => by
     have hlt : e.on < j := by
      refine Classical.byContradiction fun hc => ?_
      have := (hall j hjP.1).2
      rw [aftB_true.2 ⟨L[j]'hjP.1, List.getElem?_eq_getElem hjP.1, e, hee, hb, by simpa using hc⟩] at this
      cases this
     have h1 := hmin e.on hlt
     have hel : e.on < T.size := by rw [h.sz, hsz]; omega
     have h2 : T.getD e.on true ≠ false := fun hc => h1 ⟨by omega, hc⟩
     simpa [Array.getD_eq_getD_getElem?, hel] using h2⟩
    rw [he] at hmem
    cases hmem
   refine ⟨fun he => absurd he hne, fun j hj => ?_⟩
   obtain ⟨p, o, hpR, hpo, rfl⟩ := hready j hj
   obtain ⟨hu, oj, hoj, hall'⟩ := mem_ready.1 hj
   have hoj' : L[o.i]? = some oj := by simpa using hoj
   have hpl := h.lt p hpR
   have hip := hbi hpo
   obtain ⟨oi, hoi, hg, hwp⟩ := hstep.at_ hpo
   rw [hoj'] at hoi
   cases hoi
   rw [Nat.zero_add] at hwp
   have hdp : ∀ q ∈ o.deps, q ≠ p ∧ q < bag.length ∧ q ∉ R := fun q hq => by
    have h1 := hde p (by rw [hlen]; exact hpl) q (by rw [List.getD_eq_getElem?_getD]; simp [hpo, hq])
    obtain ⟨⟨hqp, hql⟩, hqa⟩ := h1
    refine ⟨hqp, by rw [← hlen]; exact hql, fun hqR => ?_⟩
    obtain ⟨o', ho', e, he, hb, hf⟩ := aftB_true.1 hqa
    have e1 : is.getD p 0 = o.i := by rw [List.getD_eq_getElem?_getD, hip]; rfl
    rw [e1, hoj'] at ho'
    cases ho'
    have h2 := hall' e he hb
    have hqi : is[q]? = some e.on := by rw [show e.on = is.getD q 0 from by simpa using hf, List.getD_eq_getElem?_getD, List.getElem?_eq_getElem hql]; rfl
    have := h.yet q _ hqi hqR
    rw [Array.getD_eq_getD_getElem?, this] at h2
    cases h2
   have hact : ∀ v, (bagAct ds a x).put oj.dst v = bagAct ds a (upd x p v) := fun v => by
    have hs : ds[p]? = some oj.dst := by rw [← hds]; simp [hip, slot, hoj']
    unfold bagAct Act.put
    cases hdst : oj.dst with
    | none => rw [hdst] at hs; simp only; rw [puts_none hsl hs]
    | some d => rw [hdst] at hs; simp only; rw [puts_put hsl hs]
   refine wpOp_step (by simpa using hoj') (fun K' hK => ?_)
   rw [if_pos (by unfold Region.wanted; rw [hg])]
   refine hwp x lo hi W h.b (fun q o' hq ho' => h.f q o' ho' (hdp q (List.contains_iff_mem.1 hq)).2.2) K' (fun v W' hB hF => ?_)
   have hW' : Below w.heap.size w W' := h.b.trans (hB.mono h.b.size)
   rw [hact]
   refine hK _ _ ⟨hS W' hW', ?_⟩
   have hsub : ∀ {q}, q ≠ p → q ∉ R.erase p → q ∉ R := fun {q} hqp hq hqR => hq ((List.mem_erase_of_ne hqp).2 hqR)
   refine ih (R.erase p) _ (upd x p v) (updN lo p W.heap.size) (updN hi p W'.heap.size) W' (by rw [List.length_erase_of_mem hpR]; omega) ?_
   have hlo : ∀ q, q ≠ p → updN lo p W.heap.size q = lo q := fun q hq => updN_ne _ _ hq
   have hhi : ∀ q, q ≠ p → updN hi p W'.heap.size q = hi q := fun q hq => updN_ne _ _ hq
   have hlp : updN lo p W.heap.size p = W.heap.size := updN_self _ _ _
   have hhp : updN hi p W'.heap.size p = W'.heap.size := updN_self _ _ _
   have hpi : ∀ q i, is[q]? = some i → q ≠ p → i ≠ o.i := fun q i hq hqp e => by
    subst e
    exact hqp ((List.getElem?_inj (List.getElem?_eq_some_iff.1 hq).1 hn).1 (hq.trans hip.symm))
   have hoil : o.i < T.size := by rw [h.sz, hsz]; exact (List.getElem?_eq_some_iff.1 hoj').1
   refine ⟨hW', fun q o' ho' hq => ?_, fun q q' hq hq' hqR hqR' hne' => ?_, h.n.erase p, fun q hq => h.lt q (List.mem_of_mem_erase hq), by rw [Array.size_setIfInBounds]; exact h.sz, fun j hj => ?_, fun q i hqi hq => ?_, fun q i hqi hq => ?_, fun q i o' hqi hq ho' e he hb => ?_⟩
   ·by_cases hqp : q = p
    ·subst hqp
     rw [hpo] at ho'
     cases ho'
     unfold BagFact
     rw [hlp, hhp]
     exact ⟨h.b.size, Nat.le_refl _, hF⟩
    ·obtain ⟨f1, f2, f3⟩ := h.f q o' ho' (hsub hqp hq)
     unfold BagFact at f3 ⊢
     rw [hlo q hqp, hhi q hqp]
     have hnd : p ∉ q :: o'.deps := fun hm => by
      rcases List.mem_cons.1 hm with hm | hm
      ·exact hqp hm.symm
      ·
       have hqb := hbi ho'
       have h1 := hde q (by rw [hlen]; exact (List.getElem?_eq_some_iff.1 ho').1) p (by rw [List.getD_eq_getElem?_getD]; simp [ho', hm])
       obtain ⟨o2, ho2, e, he, hb, hf⟩ := aftB_true.1 h1.2
       have e1 : is.getD q 0 = o'.i := by rw [List.getD_eq_getElem?_getD, hqb]; rfl
       rw [e1] at ho2
       have h2 := h.cl q _ _ hqb (hsub hqp hq) ho2 e he hb
       have e2 : e.on = o.i := by rw [show e.on = is.getD p 0 from by simpa using hf, List.getD_eq_getElem?_getD, hip]; rfl
       have h3 := h.yet p _ hip hpR
       rw [e2, Array.getD_eq_getD_getElem?, h3] at h2
       cases h2
     rw [seen_upd x v hnd]
     exact ⟨f1, Nat.le_trans f2 hB.size, o'.st _ _ _ _ _ f2 hB f3⟩
   ·by_cases hqp : q = p
    ·subst hqp
     rw [hlp, hhp, hlo q' (Ne.symm hne'), hhi q' (Ne.symm hne')]
     obtain ⟨_, f2, _⟩ := h.f q' bag[q'] (List.getElem?_eq_getElem hq') (hsub (Ne.symm hne') hqR')
     exact .inr f2
    ·by_cases hqp' : q' = p
     ·subst hqp'
      rw [hlp, hhp, hlo q hqp, hhi q hqp]
      obtain ⟨_, f2, _⟩ := h.f q bag[q] (List.getElem?_eq_getElem hq) (hsub hqp hqR)
      exact .inl f2
     ·rw [hlo q hqp, hhi q hqp, hlo q' hqp', hhi q' hqp']
      exact h.d q q' hq hq' (hsub hqp hqR) (hsub hqp' hqR') hne'
   ·rw [Array.getElem?_setIfInBounds, if_neg (fun e => hj (by rw [← e]; exact List.mem_of_getElem? hip))]
    exact h.out j hj
   ·have hqp : q ≠ p := fun e => by rw [e] at hq; exact (List.Nodup.not_mem_erase h.n) hq
    rw [Array.getElem?_setIfInBounds, if_neg (Ne.symm (hpi q i hqi hqp))]
    exact h.yet q i hqi (List.mem_of_mem_erase hq)
   ·by_cases hqp : q = p
    ·subst hqp
     rw [hip] at hqi
     cases hqi
     rw [Array.getElem?_setIfInBounds, if_pos rfl, if_pos hoil]
    ·rw [Array.getElem?_setIfInBounds, if_neg (Ne.symm (hpi q i hqi hqp))]
     exact h.done q i hqi (hsub hqp hq)
   ·refine getD_set_true ?_
    by_cases hqp : q = p
    ·subst hqp
     rw [hip] at hqi
     cases hqi
     rw [hoj'] at ho'
     cases ho'
     exact hall' e he hb
    ·exact h.cl q i o' hqi (hsub hqp hq) ho' e he hb
 obtain ⟨x0, hx0⟩ := puts_init hsl a.tmps
 have ha : bagAct ds a x0 = a := by unfold bagAct; rw [hx0]
 have := main bag.length (List.range bag.length) listed x0 (fun _ => 0) (fun _ => 0) w (by simp) ⟨Below.refl _ _, fun p o ho hp => absurd (List.mem_range.2 (List.getElem?_eq_some_iff.1 ho).1) hp, fun p q hp _ hpR => absurd (List.mem_range.2 hp) hpR, List.nodup_range, fun p hp => List.mem_range.1 hp, rfl, fun _ _ => rfl, fun p i hi _ => ?_, fun p i hi hp => absurd (List.mem_range.2 (by rw [← hlen]; exact (List.getElem?_eq_some_iff.1 hi).1)) hp, fun p i o hi hp => absurd (List.mem_range.2 (by rw [← hlen]; exact (List.getElem?_eq_some_iff.1 hi).1)) hp⟩
 ·rw [ha] at this
  exact this
 ·obtain ⟨h1, h2⟩ := hun i (List.mem_of_getElem? hi)
  rw [Array.getD_eq_getD_getElem?] at h2
  cases hl : listed[i]? with
  | none => rw [hl] at h2; cases h2
  | some b => rw [hl] at h2; simp at h2; rw [h2]
end
def takesOk (md : Region.Mode) (L : List Oper) : List Nat → Array Bool → Bool
 | [], _ => true
 | i :: r, l => Region.free md L.toArray l i && (Region.ready md L.toArray l).contains i && takesOk md L r (l.setIfInBounds i true)
def TakesG (P : Program) (S : World → Prop) : List Oper → Act → (Act → Prop) → Prop
 | [], a, K => K a
 | o :: r, a, K => o.guard = none ∧ ∃ v, (∀ w, S w → (execOp a.eval o).run P w = .ok (.value v) w) ∧ TakesG P S r (a.put o.dst v) K
theorem TakesG.cons {P : Program} {S : World → Prop} {o : Oper} {r : List Oper} {a : Act} {K : Act → Prop} {v : Value} (hg : o.guard = none) (hv : ∀ w, S w → (execOp a.eval o).run P w = .ok (.value v) w) (h : TakesG P S r (a.put o.dst v) K) : TakesG P S (o :: r) a K := ⟨hg, v, hv, h⟩
theorem TakesG.mono {P : Program} {S : World → Prop} : ∀ {r : List Oper} {a : Act} {K K' : Act → Prop}, TakesG P S r a K → (∀ a, K a → K' a) → TakesG P S r a K'
 | [], _, _, _, h, hk => hk _ h
 | o :: r, _, _, _, ⟨hg, v, hv, h⟩, hk => ⟨hg, v, hv, TakesG.mono h hk⟩
theorem put_form (a : Act) (d : Option Tmp) (v : Value) : a.put d v = ⟨(a.put d v).tmps, a.defers⟩ := by cases d <;> rfl
theorem takes (is : List Nat) {P : Program} {md : Region.Mode} {L : List Oper} {Q : Exit → Act → World → Prop} {S : World → Prop} {fuel : Nat} {w : World} (hs : Region.noSelect L.toArray = true) (hQ : ∀ c (a : Act) t w, Q (.panic c) ⟨t, a.defers⟩ w → Q (.panic c) a w) (hS : S w) : ∀ {listed : Array Bool} {a : Act}, takesOk md L is listed = true →
  (∀ K : Act → Prop, Shut (∀ a', wpAnyH P md L.toArray Q S fuel (sets listed is) a' w → K a') → TakesG P S (is.filterMap fun i => L[i]?) a K) → wpAnyH P md L.toArray Q S (fuel + is.length) listed a w := by
 induction is with
 | nil => exact fun _ h => h (fun a' => wpAnyH P md L.toArray Q S fuel _ a' w) (fun _ h => h)
 | cons i r ih =>
  intro listed a hok h
  unfold takesOk at hok
  simp only [Bool.and_eq_true] at hok
  obtain ⟨⟨hf, hr⟩, hok⟩ := hok
  cases hi : L[i]? with
  | none => exact absurd hr (by
    rw [List.contains_iff_mem, mem_ready]
    rintro ⟨_, o, ho, _⟩
    rw [List.getElem?_toArray, hi] at ho
    cases ho)
  | some o =>
   have h1 := h (fun a' => wpAnyH P md L.toArray Q S fuel (sets listed (i :: r)) a' w) (fun _ h => h)
   simp only [List.filterMap_cons, hi] at h1
   obtain ⟨hg, v, hv, h2⟩ := h1
   exact takeH i hi hs hf hr (fun c a w h => hQ c a _ w (by rw [put_form] at h; exact h)) (by unfold Region.wanted; rw [hg]) hS hv (ih hok fun K hK => h2.mono fun a' h => hK a' h)
end Go.Proofs.YtnldbplphgfpeaaGreat
namespace Go.Proofs.YtnldbplphgfpeaaGreat
open Go Go.RowKit Go.Shelf
set_option linter.unusedVariables false
set_option linter.unusedSimpArgs false
section
variable {P : Program} {md : Region.Mode} {L : List Oper} {Q : Exit → Act → World → Prop}
theorem wpAny_more {ops : Array Oper} : ∀ (f : Nat) (listed : Array Bool) (a : Act) (w : World), wpAny P md ops Q f listed a w → wpAny P md ops Q (f + 1) listed a w
 | 0, _, _, _, h => ⟨fun _ => h.2, fun i hi => by rw [h.1] at hi; cases hi⟩
 | f + 1, listed, _, _, h => ⟨h.1, fun i hi => wpOp_mono (fun a w h' => wpAny_more f _ a w h') (h.2 i hi)⟩
theorem wpAny_add {ops : Array Oper} (m : Nat) {f : Nat} {listed : Array Bool} {a : Act} {w : World} (h : wpAny P md ops Q f listed a w) : wpAny P md ops Q (m + f) listed a w := by
 induction m with
 | zero => rw [Nat.zero_add]; exact h
 | succ m ih => rw [Nat.succ_add]; exact wpAny_more _ _ _ _ ih
theorem upon_then {o : Oper} {a : Act} {w : World} {K J : Act → World → Prop} (h : o.wp P a w K (Exit.then J Q)) : o.wp P a w K Q := by
 unfold Oper.wp at *
 generalize (execOp a.eval o).run P w = r at *
 cases r with
 | ok n w' =>
  cases n <;> simp only [Oper.upon] at h ⊢ <;> first
   | exact h
   | exact Calls.mono h (fun e w'' he => by cases e <;> exact he)
 | halt x w' => cases x <;> simp only [Oper.upon] at h ⊢ <;> exact h
def prefixOk (md : Region.Mode) (L : List Oper) (k : Nat) : Bool :=
 (List.range L.length).all (fun j => (decide (j < k) || (List.range k).all (waitsB md L (Array.replicate L.length false) 10 j)) && !aftB md L j (fun e => decide (j ≤ e.on))) && (L.take k).all fun o => o.guard.isNone
theorem aft_lt {k : Nat} (hp : prefixOk md L k = true) {j : Nat} {o : Oper} (ho : L[j]? = some o) {e : Edge} (he : e ∈ o.after) (hb : Region.binds md e = true) : e.on < j := by
 unfold prefixOk at hp
 simp only [Bool.and_eq_true, List.all_eq_true, List.mem_range, Bool.not_eq_true'] at hp
 have h1 := (hp.1 j (List.getElem?_eq_some_iff.1 ho).1).2
 refine Classical.byContradiction fun hc => ?_
 rw [aftB_true.2 ⟨o, ho, e, he, hb, by simpa using hc⟩] at h1
 cases h1
structure LeadIn (md : Region.Mode) (L : List Oper) (k : Nat) (T1 T : Array Bool) : Prop where
 s1 : T1.size = k
 s : T.size = L.length
 lo : ∀ j, j < k → T[j]? = T1[j]?
 hi : ∀ j, k ≤ j → T.getD j false = false
 cl : ∀ j o, j < k → T1.getD j false = true → L[j]? = some o → ∀ e ∈ o.after, Region.binds md e = true → T1.getD e.on false = true
theorem waitsB_lead {k : Nat} (hk : k ≤ L.length) {T1 T : Array Bool} (h : LeadIn md L k T1 T) {i : Nat} (hi : T.getD i false = false) : ∀ (f j : Nat), waitsB md L (Array.replicate L.length false) f j i = true → ∃ o, L[j]? = some o ∧ ∃ e ∈ o.after, Region.binds md e = true ∧ T.getD e.on false = false := by
 have hd : ∀ j, aftB md L j (fun e => e.on == i) = true → ∃ o, L[j]? = some o ∧ ∃ e ∈ o.after, Region.binds md e = true ∧ T.getD e.on false = false := fun j hj => by
  obtain ⟨o, ho, e, he, hb, hf⟩ := aftB_true.1 hj
  exact ⟨o, ho, e, he, hb, by rw [show e.on = i from by simpa using hf]; exact hi⟩
 intro f
 induction f with
 | zero => exact fun j hj => hd j hj
 | succ f ih =>
  intro j hj
  unfold waitsB at hj
  rcases Bool.or_eq_true_iff.1 hj with hj | hj
  ·exact hd j hj
  ·obtain ⟨o, ho, e, he, hb, hf⟩ := aftB_true.1 hj
   obtain ⟨_, h2⟩ := Bool.and_eq_true_iff.1 hf
   obtain ⟨o2, ho2, e2, he2, hb2, hf2⟩ := ih e.on h2
   refine ⟨o, ho, e, he, hb, ?_⟩
   rcases Nat.lt_or_ge e.on k with hlt | hge
   ·cases ht : T.getD e.on false
    ·rfl
    ·exfalso
     have h3 : T1.getD e.on false = true := by rw [Array.getD_eq_getD_getElem?, ← h.lo e.on hlt, ← Array.getD_eq_getD_getElem?]; exact ht
     have h4 := h.cl e.on o2 hlt h3 ho2 e2 he2 hb2
     have h5 : e2.on < k := by
      rw [Array.getD_eq_getD_getElem?] at h4
      rcases Nat.lt_or_ge e2.on k with h' | h'
      ·exact h'
      ·rw [Array.getElem?_eq_none (by rw [h.s1]; exact h')] at h4; cases h4
     rw [Array.getD_eq_getD_getElem?, h.lo e2.on h5, ← Array.getD_eq_getD_getElem?, h4] at hf2
     cases hf2
   ·exact h.hi e.on hge
theorem lead_any {k : Nat} (hk : k ≤ L.length) (hp : prefixOk md L k = true) (m : Nat) : ∀ (f : Nat) (T1 T : Array Bool) (a : Act) (w : World), LeadIn md L k T1 T →
  wpAny P md (L.take k).toArray (Exit.then (fun a w => wpAny P md L.toArray Q m (sets (Array.replicate L.length false) (List.range k)) a w) Q) f T1 a w → wpAny P md L.toArray Q (f + m) T a w := by
 have hp' := hp
 unfold prefixOk at hp'
 simp only [Bool.and_eq_true, List.all_eq_true, List.mem_range, Bool.not_eq_true', Bool.or_eq_true, decide_eq_true_eq] at hp'
 have hfull : ∀ {T1 T : Array Bool}, LeadIn md L k T1 T → Region.ready md (L.take k).toArray T1 = [] → T = sets (Array.replicate L.length false) (List.range k) := fun {T1 T} h hr => by
  have hall : ∀ n j, j < n → j < k → T1[j]? = some true := by
   intro n
   induction n with
   | zero => exact fun j hj => absurd hj (Nat.not_lt_zero _)
   | succ n ih =>
    intro j hj hjk
    have hlt : j < T1.size := by rw [h.s1]; exact hjk
    cases hv : T1[j] with
    | true => rw [Array.getElem?_eq_getElem hlt, hv]
    | false =>
     exfalso
     have hjl : j < L.length := by omega
     have hm : j ∈ Region.ready md (L.take k).toArray T1 := mem_ready.2 ⟨by simp [hlt, hv], L[j], by simp [List.getElem?_take, hjk, hjl], fun e he hb => by
      have h1 := aft_lt hp (List.getElem?_eq_getElem hjl) he hb
      rw [Array.getD_eq_getD_getElem?, ih e.on (by omega) (by omega)]
      rfl⟩
     rw [hr] at hm
     cases hm
  apply Array.ext_getElem?
  intro j
  rw [sets_get]
  simp only [List.mem_range, Array.size_replicate]
  by_cases hjk : j < k
  ·rw [if_pos ⟨hjk, by omega⟩, h.lo j hjk]
   exact hall (j + 1) j (by omega) hjk
  ·rw [if_neg (by omega)]
   have h1 := h.hi j (by omega)
   rw [Array.getD_eq_getD_getElem?] at h1
   by_cases hjl : j < L.length
   ·rw [Array.getElem?_replicate, if_pos hjl]
    have hlt : j < T.size := by rw [h.s]; exact hjl
    rw [Array.getElem?_eq_getElem hlt] at h1 ⊢
    simpa using h1
   ·rw [Array.getElem?_eq_none (by rw [h.s]; omega), Array.getElem?_eq_none (by simp; omega)]
 intro f
 induction f with
 | zero =>
  intro T1 T a w h hw
  rw [hfull h hw.1, Nat.zero_add]
  exact hw.2
 | succ f ih =>
  intro T1 T a w h hw
  by_cases hr1 : Region.ready md (L.take k).toArray T1 = []
  ·rw [hfull h hr1]
   exact wpAny_add (f + 1) (hw.1 hr1)
  ·
   have hmem : ∀ j, j ∈ Region.ready md L.toArray T → j < k ∧ j ∈ Region.ready md (L.take k).toArray T1 := fun j hj => by
    obtain ⟨hu, o, ho, hall⟩ := mem_ready.1 hj
    have ho' : L[j]? = some o := by simpa using ho
    have hjl := (List.getElem?_eq_some_iff.1 ho').1
    have hjk : j < k := by
     refine Classical.byContradiction fun hc => ?_
     obtain ⟨i, hik, hif⟩ : ∃ i, i < k ∧ T1.getD i false = false := by
      refine Classical.byContradiction fun hno => hr1 ?_
      cases hq : Region.ready md (L.take k).toArray T1 with
      | nil => rfl
      | cons i r =>
       exfalso
       have hi : i ∈ Region.ready md (L.take k).toArray T1 := by rw [hq]; simp
       obtain ⟨h1, oi, h2, _⟩ := mem_ready.1 hi
       have hil : i < k := by
        have : i < (L.take k).length := by simpa using (Array.getElem?_eq_some_iff.1 h2).1
        simp at this; omega
       refine hno ⟨i, hil, ?_⟩
       rw [Array.getD_eq_getD_getElem?] at h1 ⊢
       rw [Array.getElem?_eq_getElem (by rw [h.s1]; exact hil)] at h1 ⊢
       simpa using h1
     rcases (hp'.1 j hjl).1 with h1 | h1
     ·exact hc h1
     ·obtain ⟨o2, ho2, e, he, hb, hf⟩ := waitsB_lead hk h (i := i) (by rw [Array.getD_eq_getD_getElem?, h.lo i hik, ← Array.getD_eq_getD_getElem?]; exact hif) 10 j (h1 i hik)
      rw [ho'] at ho2
      cases ho2
      rw [hall e he hb] at hf
      cases hf
    refine ⟨hjk, mem_ready.2 ⟨?_, o, by simp [List.getElem?_take, hjk, ho'], fun e he hb => ?_⟩⟩
    ·rw [Array.getD_eq_getD_getElem?, ← h.lo j hjk, ← Array.getD_eq_getD_getElem?]; exact hu
    ·have h1 := aft_lt hp ho' he hb
     rw [Array.getD_eq_getD_getElem?, ← h.lo e.on (by omega), ← Array.getD_eq_getD_getElem?]; exact hall e he hb
   rw [show f + 1 + m = (f + m) + 1 from by omega]
   refine ⟨fun he => ?_, fun j hj => ?_⟩
   ·exfalso
    cases hq : Region.ready md (L.take k).toArray T1 with
    | nil => exact hr1 hq
    | cons i r =>
     have hi : i ∈ Region.ready md (L.take k).toArray T1 := by rw [hq]; simp
     obtain ⟨h1, oi, h2, h3⟩ := mem_ready.1 hi
     have hil : i < k := by
      have : i < (L.take k).length := by simpa using (Array.getElem?_eq_some_iff.1 h2).1
      simp at this; omega
     have hoi : L[i]? = some oi := by
      have : (L.take k)[i]? = some oi := by simpa using h2
      rw [List.getElem?_take, if_pos hil] at this
      exact this
     have : i ∈ Region.ready md L.toArray T := mem_ready.2 ⟨by rw [Array.getD_eq_getD_getElem?, h.lo i hil, ← Array.getD_eq_getD_getElem?]; exact h1, oi, by simpa using hoi, fun e he' hb => by
      have h4 := aft_lt hp hoi he' hb
      rw [Array.getD_eq_getD_getElem?, h.lo e.on (by omega), ← Array.getD_eq_getD_getElem?]; exact h3 e he' hb⟩
     rw [he] at this
     cases this
   ·obtain ⟨hjk, hj1⟩ := hmem j hj
    obtain ⟨hu, o, ho, hall⟩ := mem_ready.1 hj
    have ho' : L[j]? = some o := by simpa using ho
    have hg : o.guard = none := by
     have := hp'.2 o (List.mem_of_getElem? (i := j) (by rw [List.getElem?_take, if_pos hjk]; exact ho'))
     simpa using this
    have h1 := hw.2 j hj1
    have hot : (L.take k).toArray[j]? = some o := by simp [List.getElem?_take, hjk, ho']
    unfold wpOp at h1 ⊢
    rw [hot] at h1
    rw [ho]
    have hwt : ∀ y, Region.wanted o y = true := fun y => by unfold Region.wanted; rw [hg]
    simp only [hwt, if_true] at h1 ⊢
    have hin : LeadIn md L k (T1.setIfInBounds j true) (T.setIfInBounds j true) := by
     refine ⟨by simpa using h.s1, by simpa using h.s, fun i hi => ?_, fun i hi => ?_, fun i o' hi ht hoi e he hb => ?_⟩
     ·rw [Array.getElem?_setIfInBounds, Array.getElem?_setIfInBounds, h.lo i hi, h.s, h.s1]
      by_cases hji : j = i
      ·subst hji; rw [if_pos rfl, if_pos rfl, if_pos hjk, if_pos (by omega)]
      ·rw [if_neg hji, if_neg hji]
     ·rw [getD_set_ne false (by omega)]; exact h.hi i hi
     ·refine getD_set_true ?_
      by_cases hji : j = i
      ·subst hji
       rw [ho'] at hoi
       cases hoi
       obtain ⟨_, o3, ho3, hall3⟩ := mem_ready.1 hj1
       rw [hot] at ho3
       cases ho3
       exact hall3 e he hb
      ·rw [getD_set_ne false hji] at ht
       exact h.cl i o' hi ht hoi e he hb
    rcases h1 with h1 | ⟨h1, h2⟩
    ·exact .inl (upon_then (Oper.wp_mono (fun a' w' h' => ih _ _ a' w' hin h') h1))
    ·exact .inr ⟨h1, h2⟩
theorem wp_region_lead (k : Nat) {id : Nat} {a : Act} {w : World} (hm : P.follows .mixedOrders = true) (hk : Nat.ble k L.length = true) (hp : prefixOk .any L k = true)
  (h : wpAny P .any (L.take k).toArray (Exit.then (fun a w => wpAny P .any L.toArray Q (L.length - k) (sets (Array.replicate L.length false) (List.range k)) a w) Q) k (Array.replicate k false) a w.drew) : (Code.region id L.toArray true).wp P Q a w := by
 have hk' := Nat.le_of_ble_eq_true hk
 refine wp_region_any hm ?_
 have h1 := lead_any hk' hp (L.length - k) k (Array.replicate k false) (Array.replicate L.length false) a w.drew ⟨by simp, by simp, fun j hj => ?_, fun j hj => ?_, fun j o hj ht => ?_⟩ h
 ·rw [Nat.add_sub_cancel' hk'] at h1
  simpa using h1
 ·rw [Array.getElem?_replicate, Array.getElem?_replicate, if_pos (by omega), if_pos hj]
 ·rw [Array.getD_eq_getD_getElem?, Array.getElem?_replicate]; split <;> rfl
 ·rw [Array.getD_eq_getD_getElem?, Array.getElem?_replicate, if_pos hj] at ht; cases ht
end
end Go.Proofs.YtnldbplphgfpeaaGreat
namespace Go.Proofs.YtnldbplphgfpeaaGreat
open Go Go.RowKit Go.Shelf
set_option linter.unusedVariables false
set_option linter.unusedSimpArgs false
set_option maxHeartbeats 4000000
def aggRX (e : Ex Loc) : Value := .agg (e.cells eR).toArray
def RSame (a : Ex Loc) : Prop := ∀ (b : Ex Loc) (w : World), a.ok eR w → b.ok eR w → Calls Tryz.prog 64 #[aggRX a, aggRX b] w fun e w' => e = .returned (.bool (a.same b)) ∧ Below w.heap.size w w'
theorem bne_of {α : Type} [BEq α] {x y : α} {b : Bool} (h : (x == y) = b) : (x != y) = !b := by
 show (!(x == y)) = !b
 rw [h]
set_option maxRecDepth 100000 in
theorem rsameE : ∀ a : Ex Loc, RSame a := by
 intro a
 induction a using Ex.ind with
 | h ha la sa ih =>
 intro b w hoa hob
 obtain ⟨hb, lb, sb⟩ := b
 have hsame : (Ex.mk ha la sa).same (Ex.mk hb lb sb) = (ha.eq hb && sames sa sb) := rfl
 rw [hsame]
 simp only [Hd.eq]
 have hra : Lex.ok eR w la sa := hoa
 have hrb : Lex.ok eR w lb sb := hob
 obtain ⟨xk, xo, xv, xw, xn⟩ := ha
 obtain ⟨yk, yo, yv, yw, yn⟩ := hb
 obtain ⟨lA, lc⟩ := la
 obtain ⟨lB, lc'⟩ := lb
 obtain ⟨n, hn⟩ : ∃ n, n = sa.length := ⟨_, rfl⟩
 obtain ⟨n', hn'⟩ : ∃ n, n = sb.length := ⟨_, rfl⟩
 have ha63 : (n : Int) ≤ 9223372036854775807 := by have h1 := hra.1.2.1; have h2 := hra.1.2.2.1; dsimp only at h1 h2; omega
 simp only [aggRX, Ex.cells, eR]
 rw [← hn, ← hn']
 have hB := ((Below.refl _ w).alloc (Nat.le_refl _) (.cells #[.int .i64 xk, .int .i64 xo, .int .i64 xv, .int .i64 xw, .string xn, .slice lA n lc] 70)).alloc (by simp) (.cells #[.int .i64 yk, .int .i64 yo, .int .i64 yv, .int .i64 yw, .string yn, .slice lB n' lc'] 70)
 have hs0 := (Blk.new w 70 #[.int .i64 xk, .int .i64 xo, .int .i64 xv, .int .i64 xw, .string xn, .slice lA n lc]).alloc (.cells #[.int .i64 yk, .int .i64 yo, .int .i64 yv, .int .i64 yw, .string yn, .slice lB n' lc'] 70)
 have hs1 := Blk.new (w.alloc (.cells #[.int .i64 xk, .int .i64 xo, .int .i64 xv, .int .i64 xw, .string xn, .slice lA n lc] 70)) 70 #[.int .i64 yk, .int .i64 yo, .int .i64 yv, .int .i64 yw, .string yn, .slice lB n' lc']
 rw [World.size_alloc] at hs1
 obtain ⟨R, hR⟩ : ∃ R, R = sames sa sb := ⟨_, rfl⟩
 rw [← hR]
 replace hR := Lib.hid hR
 obtain ⟨b1, e1⟩ : ∃ b1, (xk == yk) = b1 := ⟨_, rfl⟩
 obtain ⟨b2, e2⟩ : ∃ b2, (xo == yo) = b2 := ⟨_, rfl⟩
 obtain ⟨b3, e3⟩ : ∃ b3, (xv == yv) = b3 := ⟨_, rfl⟩
 obtain ⟨b4, e4⟩ : ∃ b4, (xw == yw) = b4 := ⟨_, rfl⟩
 obtain ⟨b5, e5⟩ : ∃ b5, (xn.toList == yn.toList) = b5 := ⟨_, rfl⟩
 obtain ⟨b6, e6⟩ : ∃ b6, ((n : Int) == (n' : Int)) = b6 := ⟨_, rfl⟩
 have f1 := bne_of e1
 have f2 := bne_of e2
 have f3 := bne_of e3
 have f4 := bne_of e4
 have f5 := bne_of e5
 have f6 := bne_of e6
 have hlen : b6 = false → R = false := fun h => by
  rw [h] at e6
  rw [hR.out]
  cases hs : sames sa sb with
  | false => rfl
  | true =>
   have := sames_len hs
   simp at e6
   omega
 have hlen' : b6 = true → n = n' := fun h => by
  rw [h] at e6
  simp at e6
  omega
 rw [e1, e2, e3, e4, e5]
 replace hn := Lib.hid hn
 replace hn' := Lib.hid hn'
 replace hlen := Lib.hid hlen
 replace hlen' := Lib.hid hlen'
 replace ih := Lib.hid ih
 have hra' := Lib.hid hra
 have hrb' := Lib.hid hrb
 have hB' := Lib.hid hB
 have hs0' := Lib.hid hs0
 have hs1' := Lib.hid hs1
 clear hoa hob hsame hra hrb hB hs0 hs1
 cases b1
 ·simp only [Bool.false_and, Bool.and_false, Bool.not_false] at f1 ⊢
  go_enter Tryz.func64, Tryz.ntmps64
  go_wp2
  go_ret
  exact ⟨rfl, hB'.out⟩
 cases b2
 ·simp only [Bool.false_and, Bool.and_false, Bool.not_false, Bool.not_true] at f1 f2 ⊢
  go_enter Tryz.func64, Tryz.ntmps64
  go_wp2
  go_ret
  exact ⟨rfl, hB'.out⟩
 cases b3
 ·simp only [Bool.false_and, Bool.and_false, Bool.not_false, Bool.not_true] at f1 f2 f3 ⊢
  go_enter Tryz.func64, Tryz.ntmps64
  go_wp2
  go_ret
  exact ⟨rfl, hB'.out⟩
 cases b4
 ·simp only [Bool.false_and, Bool.and_false, Bool.not_false, Bool.not_true] at f1 f2 f3 f4 ⊢
  go_enter Tryz.func64, Tryz.ntmps64
  go_wp2
  go_ret
  exact ⟨rfl, hB'.out⟩
 cases b5
 ·simp only [Bool.false_and, Bool.and_false, Bool.not_false, Bool.not_true] at f1 f2 f3 f4 f5 ⊢
  go_enter Tryz.func64, Tryz.ntmps64
  go_wp2
  go_ret
  exact ⟨rfl, hB'.out⟩
 cases b6
 ·simp only [Bool.true_and, Bool.not_false, Bool.not_true] at f1 f2 f3 f4 f5 f6 ⊢
  have hRf := Lib.hid (hlen.out rfl)
  clear hlen hlen'
  go_enter Tryz.func64, Tryz.ntmps64
  go_wp2
  go_ret
  exact ⟨ret_b hRf.out.symm, hB'.out⟩
 obtain rfl := hlen'.out rfl
 clear hlen hlen'
 simp only [Bool.true_and, Bool.not_true] at f1 f2 f3 f4 f5 f6 ⊢
 go_enter Tryz.func64, Tryz.ntmps64
 go_wp2
 generalize (w.alloc (.cells #[.int .i64 xk, .int .i64 xo, .int .i64 xv, .int .i64 xw, .string xn, .slice lA n lc] 70)).alloc (.cells #[.int .i64 yk, .int .i64 yo, .int .i64 yv, .int .i64 yw, .string yn, .slice lB n lc'] 70) = W0 at *
 clear e1 e2 e3 e4 e5 e6 f1 f2 f3 f4 f5 f6
 go_loopw [5] (fun i wr => ∃ k : Nat, i = .int .i64 k ∧ k ≤ n ∧ Below W0.heap.size W0 wr ∧ ∀ (i : Nat) x y, i < k → sa[i]? = some x → sb[i]? = some y → x.same y = true) (fun i _ => n - (intOf i).toNat)
 case atStart => exact ⟨0, rfl, Nat.zero_le _, Below.refl _ _, fun i x y h => absurd h (by omega)⟩
 case round =>
  obtain ⟨k, rfl, hk, hB0, hsm⟩ := hrel
  have hB := below_and hB'.out hB0
  have k0 : 0 ≤ (k : Int) := by omega
  have hs0r := hs0'.out.below hB0 hs0'.out.lt
  have hs1r := hs1'.out.below hB0 hs1'.out.lt
  have hl0 := hs0r.lt
  have hl1 := hs1r.lt
  have hC0 : ∀ x : Ext wr, x.w.cell? ⟨w.heap.size, 5, none⟩ = some (.slice lA n lc) := fun x => (hs0r.below x.below hl0).cell 5
  have hC1 : ∀ x : Ext wr, x.w.cell? ⟨w.heap.size + 1, 5, none⟩ = some (.slice lB n lc') := fun x => (hs1r.below x.below hl1).cell 5
  have hc0 := hs0r.cell 5
  simp only [List.getElem?_toArray, List.getElem?_cons_zero, List.getElem?_cons_succ] at hc0
  clear hs0r hs1r
  by_cases hlt : k < n
  ·have hx : sa[k]? = some (sa[k]'(by have := hn.out; omega)) := List.getElem?_eq_getElem (by have := hn.out; omega)
   generalize sa[k]'(by have := hn.out; omega) = x at hx
   have hy : sb[k]? = some (sb[k]'(by have := hn'.out; omega)) := List.getElem?_eq_getElem (by have := hn'.out; omega)
   generalize sb[k]'(by have := hn'.out; omega) = y at hy
   obtain ⟨ad, hA, _, _, hxok, hcx⟩ := (hra'.out.all (keeps_below hB)).at hx
   obtain ⟨bd, hA', _, _, hyok, hcy⟩ := (hrb'.out.all (keeps_below hB)).at hy
   have hcall := fun w2 (hB2 : Below wr.heap.size wr w2) => ih.out x (List.mem_of_getElem? hx) y w2 (hxok.below hB2) (hyok.below hB2)
   have hres := sames_false hx hy
   obtain ⟨r, hr⟩ : ∃ r, r = x.same y := ⟨_, rfl⟩
   rw [← hr] at hcall hres
   replace hr := Lib.hid hr
   replace hx := Lib.hid hx
   replace hy := Lib.hid hy
   replace hsm := Lib.hid hsm
   replace hres := Lib.hid hres
   obtain ⟨⟨pk, po, pv, pw, pn⟩, ⟨xA, xc⟩, xs⟩ := x
   obtain ⟨⟨qk, qo, qv, qw, qn⟩, ⟨yA, yc⟩, ys⟩ := y
   obtain ⟨c0, c1, c2, c3, c4, c5⟩ := CellsAt.c6 hcx
   obtain ⟨d0, d1, d2, d3, d4, d5⟩ := CellsAt.c6 hcy
   simp only [aggRX, Ex.cells, eR] at c0 c1 c2 c3 c4 c5 d0 d1 d2 d3 d4 d5 hcall
   dsimp only at hA hA'
   subst hA
   subst hA'
   have k1 : (k : Int) < (n : Int) := by omega
   have hab := cell_lt c0
   have hbb := cell_lt d0
   have hX : ∀ x : Ext wr, Calls Tryz.prog 64 #[.agg #[.int .i64 pk, .int .i64 po, .int .i64 pv, .int .i64 pw, .string pn, .slice xA xs.length xc], .agg #[.int .i64 qk, .int .i64 qo, .int .i64 qv, .int .i64 qw, .string qn, .slice yA ys.length yc]] x.w fun e w' => e = .returned (.bool r) ∧ Below x.w.heap.size x.w w' := fun x => hcall x.w x.below
   have C0 := fun x : Ext wr => x.cell c0 hab
   have C1 := fun x : Ext wr => x.cell c1 hab
   have C2 := fun x : Ext wr => x.cell c2 hab
   have C3 := fun x : Ext wr => x.cell c3 hab
   have C4 := fun x : Ext wr => x.cell c4 hab
   have C5 := fun x : Ext wr => x.cell c5 hab
   have D0 := fun x : Ext wr => x.cell d0 hbb
   have D1 := fun x : Ext wr => x.cell d1 hbb
   have D2 := fun x : Ext wr => x.cell d2 hbb
   have D3 := fun x : Ext wr => x.cell d3 hbb
   have D4 := fun x : Ext wr => x.cell d4 hbb
   have D5 := fun x : Ext wr => x.cell d5 hbb
   clear hcall c0 c1 c2 c3 c4 c5 d0 d1 d2 d3 d4 d5
   replace hX := Lib.hid hX
   go_wp2_with fail
   refine wp_region_grown (by kernel_rfl) (by kernel_rfl) (by kernel_rfl) ?_
   repeat (go_big_quiet_step (first | (go_at_call 64; with_reducible exact grown_of (hX.out _))))
   refine wpQuiet_nil ?_
   rintro _ ⟨x, rfl⟩
   have hB2 := below_and hB0 x.below
   cases r
   ·go_wp2
    go_ret
    refine ⟨ret_b ((hR.out.trans (hres.out (by simp))).symm), below_and hB'.out hB2⟩
   ·go_wp2
    go_roundw
    case rel =>
     refine ⟨k + 1, by go_num, by omega, hB2, fun i x y hi hx' hy' => ?_⟩
     by_cases hik : i = k
     ·subst hik
      rw [hx.out] at hx'
      rw [hy.out] at hy'
      cases hx'
      cases hy'
      exact hr.out.symm
     ·exact hsm.out i x y (by omega) hx' hy'
    case measure => simp [intOf]; omega
  ·obtain rfl : k = n := by omega
   have hRt : R = true := by
    rw [hR.out]
    refine (sames_at sa sb (by rw [← hn.out, ← hn'.out])).2 fun i x y hx hy => hsm i x y ?_ hx hy
    have := (List.getElem?_eq_some_iff.1 hx).1
    have := hn.out
    omega
   replace hRt := Lib.hid hRt
   replace hsm := Lib.hid hsm
   go_wp2
   go_ret
   exact ⟨ret_b hRt.out.symm, hB⟩
end Go.Proofs.YtnldbplphgfpeaaGreat
namespace Go.Proofs.YtnldbplphgfpeaaGreat
open Go Go.RowKit Go.Shelf
set_option linter.unusedVariables false
set_option linter.unusedSimpArgs false
set_option maxHeartbeats 8000000
def RCnt (e : Ex Loc) : Prop := ∀ (b : Nat) (w : World), b + e.sz ≤ 20000 → e.ok eR w → Calls Tryz.prog 66 #[aggRX e, .int .i64 b] w fun r w' => r = .returned (.int .i64 (b + e.sz : Nat)) ∧ Below w.heap.size w w'
set_option maxRecDepth 100000 in
theorem rcountE : ∀ e : Ex Loc, RCnt e := by
 intro e
 induction e using Ex.ind with
 | h hd lc ss ih =>
 intro b w hb hok
 have hrow : Lex.ok eR w lc ss := hok
 obtain ⟨n, hn⟩ : ∃ n, n = ss.length := ⟨_, rfl⟩
 have hsz : (Ex.mk hd lc ss).sz = 1 + szs ss := rfl
 rw [hsz] at hb ⊢
 obtain ⟨xk, xo, xv, xw, xn⟩ := hd
 obtain ⟨lA, lcap⟩ := lc
 have hnl := szs_len ss
 have hn63 : (n : Int) ≤ 20000 := by omega
 simp only [aggRX, Ex.cells, eR]
 rw [← hn]
 obtain ⟨T, hT⟩ : ∃ T, T = szs ss := ⟨_, rfl⟩
 rw [← hT] at hb ⊢
 have hBx := (Below.refl _ w).alloc (Nat.le_refl _) (.cells #[.int .i64 xk, .int .i64 xo, .int .i64 xv, .int .i64 xw, .string xn, .slice lA n lcap] 70)
 have hs0 := Blk.new w 70 #[.int .i64 xk, .int .i64 xo, .int .i64 xv, .int .i64 xw, .string xn, .slice lA n lcap]
 have bi : (b : Int) + 1 + T ≤ 20000 := by omega
 have hrow' := Lib.hid hrow
 replace hn := Lib.hid hn
 replace hBx := Lib.hid hBx
 replace hs0 := Lib.hid hs0
 replace ih := Lib.hid ih
 replace hT := Lib.hid hT
 clear hrow hok hsz hnl
 go_enter Tryz.func66, Tryz.ntmps66
 go_wp2_with fail
 generalize w.alloc (.cells #[.int .i64 xk, .int .i64 xo, .int .i64 xv, .int .i64 xw, .string xn, .slice lA n lcap] 70) = W0 at *
 go_loopw [5, 6] (fun v5 v6 wr => ∃ (k q : Nat), v6 = .int .i64 k ∧ v5 = .int .i64 q ∧ k ≤ n ∧ q = b + 1 + szs (ss.take k) ∧ Below W0.heap.size W0 wr) (fun _ v6 _ => n - (intOf v6).toNat)
 case atStart => exact ⟨0, b + 1, rfl, by go_num, Nat.zero_le _, by simp [szs], Below.refl _ _⟩
 case round =>
  obtain ⟨k, q, rfl, rfl, hk, hq, hB0⟩ := hrel
  have k0 : 0 ≤ (k : Int) := by omega
  have hle : szs (ss.take k) ≤ szs ss := by
   have h := szs_append (ss.take k) (ss.drop k)
   rw [List.take_append_drop] at h
   omega
  have qi : (q : Int) ≤ 20000 := by have := hT.out; omega
  have hB := below_and hBx.out hB0
  have hs0r := hs0.out.below hB0 hs0.out.lt
  have hl0 := hs0r.lt
  have hc0 := hs0r.cell 5
  simp only [List.getElem?_toArray, List.getElem?_cons_zero, List.getElem?_cons_succ] at hc0
  by_cases hlt : k < n
  ·have hx : ss[k]? = some (ss[k]'(by have := hn.out; omega)) := List.getElem?_eq_getElem (by have := hn.out; omega)
   generalize ss[k]'(by have := hn.out; omega) = x at hx
   obtain ⟨ad, hA, _, _, hxok, hcx⟩ := (hrow'.out.all (keeps_below hB)).at hx
   have hnext := szs_take_succ hx
   have hxle : szs (ss.take (k + 1)) ≤ szs ss := by
    have h := szs_append (ss.take (k + 1)) (ss.drop (k + 1))
    rw [List.take_append_drop] at h
    omega
   have hcall := fun w2 (hB2 : Below wr.heap.size wr w2) => ih.out x (List.mem_of_getElem? hx) q w2 (by have := hT.out; omega) (hxok.below hB2)
   obtain ⟨q2, hq2⟩ : ∃ q2, q2 = q + x.sz := ⟨_, rfl⟩
   rw [← hq2] at hcall
   have q2i : (q2 : Int) ≤ 20000 := by have := hT.out; omega
   have hq3 : q2 = b + 1 + szs (ss.take (k + 1)) := by omega
   obtain ⟨⟨pk, po, pv, pw, pn⟩, ⟨xA, xc⟩, xs⟩ := x
   obtain ⟨c0, c1, c2, c3, c4, c5⟩ := CellsAt.c6 hcx
   simp only [aggRX, Ex.cells, eR] at c0 c1 c2 c3 c4 c5 hcall
   dsimp only at hA
   subst hA
   have k1 : (k : Int) < (n : Int) := by omega
   have hab := cell_lt c0
   have hcall2 := hcall wr (Below.refl _ _)
   replace hcall2 := Lib.hid hcall2
   replace hnext := Lib.hid hnext
   replace hx := Lib.hid hx
   replace hle := Lib.hid hle
   replace hq2 := Lib.hid hq2
   replace hq3 := Lib.hid hq3
   replace hxle := Lib.hid hxle
   replace hq := Lib.hid hq
   clear hcall hs0r hxok
   go_wp2_with fail
   refine hcall2.out.mono ?_
   rintro e w2 ⟨rfl, hB2⟩
   have hB3 := below_and hB0 hB2
   clear c0 c1 c2 c3 c4 c5 hc0
   go_wp2_with fail
   go_roundw
   case rel => exact ⟨k + 1, q2, by go_num, rfl, by omega, hq3.out, hB3⟩
   case measure => simp [intOf]; omega
  ·obtain rfl : n = k := by omega
   have hkn : ss.take n = ss := List.take_of_length_le (by have := hn.out; omega)
   rw [hkn] at hq
   have hqq : q = b + (1 + T) := by have := hT.out; omega
   replace hqq := Lib.hid hqq
   replace hkn := Lib.hid hkn
   clear hs0r hle hq
   go_wp2_with fail
   go_ret
   rw [hqq.out]
   exact ⟨rfl, hB⟩
theorem dc_neqR (x y : Dc) (w : World) : Sem.run Tryz.prog (binOp .neq 139 (.agg #[.string x.nm, .int .i64 x.wd, .int .i64 x.sz]) (.agg #[.string y.nm, .int .i64 y.wd, .int .i64 y.sz])) w = .ok (.bool (!(x.eq y))) w := by
 have u3 := Tryz.underlying3
 have u9 := Tryz.underlying9
 have a3 : ∀ w, (isAgg 3).run Tryz.prog w = .ok false w := fun w => by kernel_rfl
 have a9 : ∀ w, (isAgg 9).run Tryz.prog w = .ok false w := fun w => by kernel_rfl
 have hS : Tryz.prog.underlying 139 = some (.struct (Tryz.prog.fieldsOf 139)) := by kernel_rfl
 have hp : Tryz.prog.stoodInHeld 139 = false := by kernel_rfl
 rw [run_neq_struct, show (10000 : Nat) = 9999 + 1 from rfl, run_equalIn_agg w 9999 139 _ _ hS hp]
 simp only [Program.fieldsOf, Tryz.underlying139]
 go_simp
 obtain ⟨xn, xw, xs⟩ := x
 obtain ⟨yn, yw, ys⟩ := y
 simp only [Dc.eq]
 cases h1 : (xn.toList == yn.toList) <;> cases h2 : (xw == yw) <;> cases h3 : (xs == ys) <;> simp_all
set_option maxRecDepth 100000 in
theorem rsameD (la lb : Loc) (a b : List Dc) (w : World) (ha : RowIn w 3 la a.length (cellsD a)) (hb : RowIn w 3 lb b.length (cellsD b)) :
  Calls Tryz.prog 103 #[.slice la.A a.length la.c, .slice lb.A b.length lb.c] w fun e w' => e = .returned (.bool (sameD a b)) ∧ Below w.heap.size w w' := by
 have ha63 : (a.length : Int) ≤ 9223372036854775807 := by have h1 := ha.2.1; have h2 := ha.2.2.1; omega
 obtain ⟨n, hn⟩ : ∃ n, n = a.length := ⟨_, rfl⟩
 obtain ⟨n', hn'⟩ : ∃ n, n = b.length := ⟨_, rfl⟩
 rw [← hn] at ha63 ⊢
 rw [← hn']
 by_cases hl : n = n'
 ·subst hl
  replace hn := Lib.hid hn
  replace hn' := Lib.hid hn'
  obtain ⟨R, hR⟩ : ∃ R, R = sameD a b := ⟨_, rfl⟩
  rw [← hR]
  replace hR := Lib.hid hR
  go_enter Tryz.func103, Tryz.ntmps103
  go_wp2
  go_loopw [5] (fun i wr => ∃ k : Nat, i = .int .i64 k ∧ k ≤ n ∧ Below w.heap.size w wr ∧ ∀ (i : Nat) x y, i < k → a[i]? = some x → b[i]? = some y → x.eq y = true) (fun i _ => n - (intOf i).toNat)
  case atStart => exact ⟨0, rfl, Nat.zero_le _, Below.refl _ _, fun i x y h => absurd h (by omega)⟩
  case round =>
   obtain ⟨k, rfl, hk, hB, hsm⟩ := hrel
   have k0 : 0 ≤ (k : Int) := by omega
   by_cases hlt : k < n
   ·have hx : a[k]? = some (a[k]'(by have := hn.out; omega)) := List.getElem?_eq_getElem (by have := hn.out; omega)
    generalize a[k]'(by have := hn.out; omega) = x at hx
    have hy : b[k]? = some (b[k]'(by have := hn'.out; omega)) := List.getElem?_eq_getElem (by have := hn'.out; omega)
    generalize b[k]'(by have := hn'.out; omega) = y at hy
    obtain ⟨ad, hA, _, hcx⟩ := RowIn.dc (ha.all (keeps_below hB)) hx
    obtain ⟨bd, hA', _, hcy⟩ := RowIn.dc (hb.all (keeps_below hB)) hy
    obtain ⟨xn, xw, xs⟩ := x
    obtain ⟨yn, yw, ys⟩ := y
    obtain ⟨c0, c1, c2⟩ := CellsAt.c3 hcx
    obtain ⟨d0, d1, d2⟩ := CellsAt.c3 hcy
    obtain ⟨lA, lc⟩ := la
    obtain ⟨lB, lc'⟩ := lb
    dsimp only at hA hA'
    subst hA
    subst hA'
    have k1 : (k : Int) < (n : Int) := by omega
    have hab := cell_lt c0
    have hbb := cell_lt d0
    obtain ⟨r, hr⟩ : ∃ r, r = (Dc.mk xn xw xs).eq ⟨yn, yw, ys⟩ := ⟨_, rfl⟩
    have hres : r = false → R = false := fun h => by
     rw [hR.out]
     cases hs : sameD a b with
     | false => rfl
     | true =>
      have := (sameD_at a b (sameD_len hs)).1 hs k _ _ hx hy
      rw [← hr, h] at this
      cases this
    replace hr := Lib.hid hr
    replace hx := Lib.hid hx
    replace hy := Lib.hid hy
    replace hsm := Lib.hid hsm
    replace hres := Lib.hid hres
    have hm : Tryz.prog.eqGuardType Tryz.prog.depth 139 = false := by kernel_rfl
    have hneq := fun wx => dc_neqR ⟨xn, xw, xs⟩ ⟨yn, yw, ys⟩ wx
    dsimp only at hneq
    rw [← hr.out] at hneq
    go_wp2_with fail
    go_quiet (fail)
    have hBq : Below wr.heap.size wr (wr.drewN nq) := ⟨rfl, rfl, rfl, Nat.le_refl _, fun _ _ => rfl⟩
    generalize wr.drewN nq = W1 at *
    cases r
    ·go_wp2
     go_ret
     refine ⟨ret_b (hres.out (by simp)).symm, below_and hB hBq⟩
    ·go_wp2_with fail
     go_roundw
     case rel =>
      refine ⟨k + 1, by go_num, by omega, below_and hB hBq, fun i x y hi hx' hy' => ?_⟩
      by_cases hik : i = k
      ·subst hik
       rw [hx.out] at hx'
       rw [hy.out] at hy'
       cases hx'
       cases hy'
       exact hr.out.symm
      ·exact hsm.out i x y (by omega) hx' hy'
     case measure => simp [intOf]; omega
   ·obtain rfl : k = n := by omega
    have hRt : R = true := by
     rw [hR.out]
     refine (sameD_at a b (by rw [← hn.out, ← hn'.out])).2 fun i x y hx hy => hsm i x y ?_ hx hy
     have := (List.getElem?_eq_some_iff.1 hx).1
     have := hn.out
     omega
    replace hRt := Lib.hid hRt
    replace hsm := Lib.hid hsm
    go_wp2
    go_ret
    exact ⟨ret_b hRt.out.symm, hB⟩
 ·have hRf : sameD a b = false := by
   cases hs : sameD a b with
   | false => rfl
   | true => exact absurd (by rw [hn, hn']; exact sameD_len hs) hl
  rw [hRf]
  have h1 : ((n : Int) == (n' : Int)) = false := by simp; omega
  have h2 : ((n : Int) != (n' : Int)) = true := by simp; omega
  have hl' := Lib.hid hl
  clear hl
  replace hn := Lib.hid hn
  replace hn' := Lib.hid hn'
  replace hRf := Lib.hid hRf
  go_enter Tryz.func103, Tryz.ntmps103
  go_wp2
  go_ret
  exact ⟨rfl, Below.refl _ _⟩
end Go.Proofs.YtnldbplphgfpeaaGreat
