/- Weights of trees: nodes, and bytes of names; what is told of all heads. -/
import Derived.Test.YtnldbplphgfpeaaTPg
namespace Go.Proofs.Ytnldbplphgfpeaa
open Go Go.RowKit Go.Shelf
set_option linter.unusedVariables false
set_option linter.unusedSimpArgs false
section
variable {α β : Type}
mutual
def Ex.wt : Ex α → Nat
  | .mk h _ s => 1 + h.nm.size + wtX s
def wtX : List (Ex α) → Nat
  | [] => 0
  | x :: r => x.wt + wtX r
end
mutual
def St.wt : St α → Nat
  | .mk h _ _ _ ex th el => 1 + h.nm.size + wtX ex + wtL th + wtL el
def wtL : List (St α) → Nat
  | [] => 0
  | x :: r => x.wt + wtL r
end
theorem wtX_append : ∀ (a b : List (Ex α)), wtX (a ++ b) = wtX a + wtX b
  | [], b => by simp [wtX]
  | x :: a, b => by simp only [List.cons_append, wtX, wtX_append a b]; omega
theorem wtL_append : ∀ (a b : List (St α)), wtL (a ++ b) = wtL a + wtL b
  | [], b => by simp [wtL]
  | x :: a, b => by simp only [List.cons_append, wtL, wtL_append a b]; omega
theorem wtX_take {l : List (Ex α)} {k : Nat} {x : Ex α} (hx : l[k]? = some x) : wtX (l.take (k + 1)) = wtX (l.take k) + x.wt := by
  obtain ⟨q1, q2⟩ := List.getElem?_eq_some_iff.1 hx
  rw [List.take_succ_eq_append_getElem q1, q2, wtX_append]
  simp [wtX]
theorem wtL_take {l : List (St α)} {k : Nat} {x : St α} (hx : l[k]? = some x) : wtL (l.take (k + 1)) = wtL (l.take k) + x.wt := by
  obtain ⟨q1, q2⟩ := List.getElem?_eq_some_iff.1 hx
  rw [List.take_succ_eq_append_getElem q1, q2, wtL_append]
  simp [wtL]
theorem wtX_take_le (l : List (Ex α)) (k : Nat) : wtX (l.take k) ≤ wtX l := by
  have h := wtX_append (l.take k) (l.drop k)
  rw [List.take_append_drop] at h
  omega
theorem wtL_take_le (l : List (St α)) (k : Nat) : wtL (l.take k) ≤ wtL l := by
  have h := wtL_append (l.take k) (l.drop k)
  rw [List.take_append_drop] at h
  omega
mutual
theorem Ex.sz_wt : ∀ e : Ex α, e.sz ≤ e.wt
  | .mk _ _ s => by simp only [Ex.sz, Ex.wt]; have := szs_wt s; omega
theorem szs_wt : ∀ l : List (Ex α), szs l ≤ wtX l
  | [] => Nat.le_refl _
  | x :: r => by simp only [szs, wtX]; have := x.sz_wt; have := szs_wt r; omega
end
mutual
theorem St.sz_wt : ∀ e : St α, e.sz ≤ e.wt
  | .mk _ _ _ _ ex th el => by simp only [St.sz, St.wt]; have := szs_wt ex; have := szS_wt th; have := szS_wt el; omega
theorem szS_wt : ∀ l : List (St α), szS l ≤ wtL l
  | [] => Nat.le_refl _
  | x :: r => by simp only [szS, wtL]; have := x.sz_wt; have := szS_wt r; omega
end
mutual
theorem Ex.wt_plain : ∀ e : Ex α, e.plain.wt = e.wt
  | .mk _ _ s => by simp only [Ex.plain, Ex.wt, wtX_plain s]
theorem wtX_plain : ∀ l : List (Ex α), wtX (plains l) = wtX l
  | [] => rfl
  | x :: r => by simp only [plains, wtX, x.wt_plain, wtX_plain r]
end
mutual
theorem St.wt_plain : ∀ e : St α, e.plain.wt = e.wt
  | .mk _ _ _ _ ex th el => by simp only [St.plain, St.wt, wtX_plain ex, wtL_plain th, wtL_plain el]
theorem wtL_plain : ∀ l : List (St α), wtL (plainS l) = wtL l
  | [] => rfl
  | x :: r => by simp only [plainS, wtL, x.wt_plain, wtL_plain r]
end
-- what is told of all heads
mutual
def Ex.all (P : Hd → Prop) : Ex α → Prop
  | .mk h _ s => P h ∧ allX P s
def allX (P : Hd → Prop) : List (Ex α) → Prop
  | [] => True
  | x :: r => x.all P ∧ allX P r
end
mutual
def St.all (P : Hd → Prop) (Q : SHd → Prop) : St α → Prop
  | .mk h _ _ _ ex th el => Q h ∧ allX P ex ∧ allL P Q th ∧ allL P Q el
def allL (P : Hd → Prop) (Q : SHd → Prop) : List (St α) → Prop
  | [] => True
  | x :: r => x.all P Q ∧ allL P Q r
end
theorem allX_iff {P : Hd → Prop} : ∀ {l : List (Ex α)}, allX P l ↔ ∀ x ∈ l, x.all P
  | [] => by simp [allX]
  | x :: r => by simp [allX, allX_iff (l := r)]
theorem allL_iff {P : Hd → Prop} {Q : SHd → Prop} : ∀ {l : List (St α)}, allL P Q l ↔ ∀ x ∈ l, x.all P Q
  | [] => by simp [allL]
  | x :: r => by simp [allL, allL_iff (l := r)]
mutual
theorem Ex.all_plain {P : Hd → Prop} : ∀ e : Ex α, e.plain.all P ↔ e.all P
  | .mk _ _ s => by simp only [Ex.plain, Ex.all, allX_plain s]
theorem allX_plain {P : Hd → Prop} : ∀ l : List (Ex α), allX P (plains l) ↔ allX P l
  | [] => Iff.rfl
  | x :: r => by simp only [plains, allX, x.all_plain, allX_plain r]
end
mutual
theorem St.all_plain {P : Hd → Prop} {Q : SHd → Prop} : ∀ e : St α, e.plain.all P Q ↔ e.all P Q
  | .mk _ _ _ _ ex th el => by simp only [St.plain, St.all, allX_plain ex, allL_plain th, allL_plain el]
theorem allL_plain {P : Hd → Prop} {Q : SHd → Prop} : ∀ l : List (St α), allL P Q (plainS l) ↔ allL P Q l
  | [] => Iff.rfl
  | x :: r => by simp only [plainS, allL, x.all_plain, allL_plain r]
end
mutual
theorem Ex.all_and {P Q : Hd → Prop} : ∀ {e : Ex α}, e.all P → e.all Q → e.all (fun h => P h ∧ Q h)
  | .mk _ _ s, h, k => ⟨⟨h.1, k.1⟩, allX_and h.2 k.2⟩
theorem allX_and {P Q : Hd → Prop} : ∀ {l : List (Ex α)}, allX P l → allX Q l → allX (fun h => P h ∧ Q h) l
  | [], _, _ => trivial
  | x :: r, h, k => ⟨Ex.all_and h.1 k.1, allX_and h.2 k.2⟩
end
mutual
theorem Ex.all_mono {P Q : Hd → Prop} (hpq : ∀ h, P h → Q h) : ∀ {e : Ex α}, e.all P → e.all Q
  | .mk _ _ s, h => ⟨hpq _ h.1, allX_mono hpq h.2⟩
theorem allX_mono {P Q : Hd → Prop} (hpq : ∀ h, P h → Q h) : ∀ {l : List (Ex α)}, allX P l → allX Q l
  | [], _ => trivial
  | x :: r, h => ⟨Ex.all_mono hpq h.1, allX_mono hpq h.2⟩
end
mutual
theorem St.all_mono {P P' : Hd → Prop} {Q Q' : SHd → Prop} (hp : ∀ h, P h → P' h) (hq : ∀ h, Q h → Q' h) : ∀ {e : St α}, e.all P Q → e.all P' Q'
  | .mk _ _ _ _ ex th el, h => ⟨hq _ h.1, allX_mono hp h.2.1, allL_mono hp hq h.2.2.1, allL_mono hp hq h.2.2.2⟩
theorem allL_mono {P P' : Hd → Prop} {Q Q' : SHd → Prop} (hp : ∀ h, P h → P' h) (hq : ∀ h, Q h → Q' h) : ∀ {l : List (St α)}, allL P Q l → allL P' Q' l
  | [], _ => trivial
  | x :: r, h => ⟨St.all_mono hp hq h.1, allL_mono hp hq h.2⟩
end
/-- Names of at most M bytes. -/
def Hd.short (M : Nat) (h : Hd) : Prop := h.nm.size ≤ M
def SHd.short (M : Nat) (h : SHd) : Prop := h.nm.size ≤ M
/-- Numbers of their kinds. -/
def Hd.rng (h : Hd) : Prop := (0 ≤ h.kd ∧ h.kd < 256) ∧ (0 ≤ h.op ∧ h.op < 256) ∧ (0 ≤ h.va ∧ h.va < 4294967296)
def SHd.rng (h : SHd) : Prop := 0 ≤ h.kd ∧ h.kd < 256
mutual
theorem Ex.short_wt {M : Nat} : ∀ {e : Ex α}, e.wt ≤ M → e.all (Hd.short M)
  | .mk h _ s, hh => by simp only [Ex.wt] at hh; exact ⟨(by unfold Hd.short; omega), allX_wt (by omega)⟩
theorem allX_wt {M : Nat} : ∀ {l : List (Ex α)}, wtX l ≤ M → allX (Hd.short M) l
  | [], _ => trivial
  | x :: r, h => by simp only [wtX] at h; exact ⟨Ex.short_wt (by omega), allX_wt (by omega)⟩
end
mutual
theorem St.short_wt {M : Nat} : ∀ {e : St α}, e.wt ≤ M → e.all (Hd.short M) (SHd.short M)
  | .mk h _ _ _ ex th el, hh => by simp only [St.wt] at hh; exact ⟨(by unfold SHd.short; omega), allX_wt (by omega), allL_wt (by omega), allL_wt (by omega)⟩
theorem allL_wt {M : Nat} : ∀ {l : List (St α)}, wtL l ≤ M → allL (Hd.short M) (SHd.short M) l
  | [], _ => trivial
  | x :: r, h => by simp only [wtL] at h; exact ⟨St.short_wt (by omega), allL_wt (by omega)⟩
end
-- programs
def wtD : List Dc → Nat
  | [] => 0
  | x :: r => 1 + x.nm.size + wtD r
/-- The names of parameters. -/
def wtN : List Dc → Nat
  | [] => 0
  | x :: r => x.nm.size + wtN r
def wtI : List (In α) → Nat
  | [] => 0
  | x :: r => x.val.wt + wtI r
def wtPr : List (Pr α) → Nat
  | [] => 0
  | x :: r => x.nm.size + x.ps.length + wtL x.body + wtN x.ps + wtPr r
def Pg.wt (p : Pg α) : Nat := p.req.wt + p.inv.wt + p.procs.length + p.inits.length + wtD p.ins + wtD p.gh + wtD p.va + wtD p.ar + wtI p.inits + wtPr p.procs + wtL p.work + wtL p.recov
theorem wtD_append : ∀ (a b : List Dc), wtD (a ++ b) = wtD a + wtD b
  | [], b => by simp [wtD]
  | x :: a, b => by simp only [List.cons_append, wtD, wtD_append a b]; omega
theorem wtN_append : ∀ (a b : List Dc), wtN (a ++ b) = wtN a + wtN b
  | [], b => by simp [wtN]
  | x :: a, b => by simp only [List.cons_append, wtN, wtN_append a b]; omega
theorem wtI_append : ∀ (a b : List (In α)), wtI (a ++ b) = wtI a + wtI b
  | [], b => by simp [wtI]
  | x :: a, b => by simp only [List.cons_append, wtI, wtI_append a b]; omega
theorem wtPr_append : ∀ (a b : List (Pr α)), wtPr (a ++ b) = wtPr a + wtPr b
  | [], b => by simp [wtPr]
  | x :: a, b => by simp only [List.cons_append, wtPr, wtPr_append a b]; omega
theorem wtD_take {l : List Dc} {k : Nat} {x : Dc} (hx : l[k]? = some x) : wtD (l.take (k + 1)) = wtD (l.take k) + (1 + x.nm.size) := by
  obtain ⟨q1, q2⟩ := List.getElem?_eq_some_iff.1 hx
  rw [List.take_succ_eq_append_getElem q1, q2, wtD_append]
  simp [wtD]
theorem wtN_take {l : List Dc} {k : Nat} {x : Dc} (hx : l[k]? = some x) : wtN (l.take (k + 1)) = wtN (l.take k) + x.nm.size := by
  obtain ⟨q1, q2⟩ := List.getElem?_eq_some_iff.1 hx
  rw [List.take_succ_eq_append_getElem q1, q2, wtN_append]
  simp [wtN]
theorem wtI_take {l : List (In α)} {k : Nat} {x : In α} (hx : l[k]? = some x) : wtI (l.take (k + 1)) = wtI (l.take k) + x.val.wt := by
  obtain ⟨q1, q2⟩ := List.getElem?_eq_some_iff.1 hx
  rw [List.take_succ_eq_append_getElem q1, q2, wtI_append]
  simp [wtI]
theorem wtPr_take {l : List (Pr α)} {k : Nat} {x : Pr α} (hx : l[k]? = some x) : wtPr (l.take (k + 1)) = wtPr (l.take k) + (x.nm.size + x.ps.length + wtL x.body + wtN x.ps) := by
  obtain ⟨q1, q2⟩ := List.getElem?_eq_some_iff.1 hx
  rw [List.take_succ_eq_append_getElem q1, q2, wtPr_append]
  simp [wtPr]
theorem wtD_len : ∀ l : List Dc, l.length ≤ wtD l
  | [] => Nat.le_refl _
  | x :: r => by have := wtD_len r; simp only [List.length_cons, wtD]; omega
theorem wtD_take_le (l : List Dc) (k : Nat) : wtD (l.take k) ≤ wtD l := by
  have h := wtD_append (l.take k) (l.drop k)
  rw [List.take_append_drop] at h
  omega
theorem wtN_take_le (l : List Dc) (k : Nat) : wtN (l.take k) ≤ wtN l := by
  have h := wtN_append (l.take k) (l.drop k)
  rw [List.take_append_drop] at h
  omega
theorem wtI_take_le (l : List (In α)) (k : Nat) : wtI (l.take k) ≤ wtI l := by
  have h := wtI_append (l.take k) (l.drop k)
  rw [List.take_append_drop] at h
  omega
theorem wtPr_take_le (l : List (Pr α)) (k : Nat) : wtPr (l.take k) ≤ wtPr l := by
  have h := wtPr_append (l.take k) (l.drop k)
  rw [List.take_append_drop] at h
  omega
theorem szI_wt : ∀ l : List (In α), szI l ≤ l.length + wtI l
  | [] => Nat.le_refl _
  | x :: r => by
    have h1 := szI_wt r
    have h2 := x.val.sz_wt
    simp only [szI, List.map_cons, List.sum_cons, List.length_cons, wtI] at h1 ⊢
    omega
theorem szPr_wt : ∀ l : List (Pr α), szPr l ≤ l.length + wtPr l
  | [] => Nat.le_refl _
  | x :: r => by
    have h1 := szPr_wt r
    have h2 := szS_wt x.body
    simp only [szPr, List.map_cons, List.sum_cons, List.length_cons, wtPr] at h1 ⊢
    omega
theorem Pg.sz_wt (p : Pg α) : p.sz ≤ p.wt + 1 := by
  have h1 := szI_wt p.inits
  have h2 := szPr_wt p.procs
  have h3 := szS_wt p.work
  have h4 := szS_wt p.recov
  have h5 := p.req.sz_wt
  have h6 := p.inv.sz_wt
  have h7 := wtD_len p.ins
  have h8 := wtD_len p.gh
  have h9 := wtD_len p.va
  have h10 := wtD_len p.ar
  unfold Pg.sz Pg.wt
  omega
theorem wtI_plain : ∀ l : List (In α), wtI (l.map In.plain) = wtI l
  | [] => rfl
  | x :: r => by simp only [List.map_cons, wtI, In.plain, Ex.wt_plain, wtI_plain r]
theorem wtPr_plain : ∀ l : List (Pr α), wtPr (l.map Pr.plain) = wtPr l
  | [] => rfl
  | x :: r => by simp only [List.map_cons, wtPr, Pr.plain, wtL_plain, wtPr_plain r]
theorem Pg.wt_plain (p : Pg α) : p.plain.wt = p.wt := by
  simp only [Pg.wt, Pg.plain, wtI_plain, wtPr_plain, wtL_plain, Ex.wt_plain, List.length_map]
/-- A program whose names have at most M bytes, and whose lists at most M elements. -/
structure Pg.fit (M : Nat) (p : Pg α) : Prop where
  ins : ∀ d ∈ p.ins, d.nm.size ≤ M
  gh : ∀ d ∈ p.gh, d.nm.size ≤ M
  va : ∀ d ∈ p.va, d.nm.size ≤ M
  ar : ∀ d ∈ p.ar, d.nm.size ≤ M
  req : p.req.all (Hd.short M)
  inits : p.inits.length ≤ M ∧ ∀ d ∈ p.inits, d.val.all (Hd.short M)
  procs : p.procs.length ≤ M ∧ ∀ x ∈ p.procs, x.nm.size ≤ M ∧ (∀ d ∈ x.ps, d.nm.size ≤ M) ∧ x.ps.length ≤ M ∧ allL (Hd.short M) (SHd.short M) x.body
  work : allL (Hd.short M) (SHd.short M) p.work
  recov : allL (Hd.short M) (SHd.short M) p.recov
  inv : p.inv.all (Hd.short M)
/-- A program whose numbers are of their kinds. -/
structure Pg.rng (p : Pg α) : Prop where
  req : p.req.all Hd.rng
  inits : ∀ d ∈ p.inits, d.val.all Hd.rng
  procs : ∀ x ∈ p.procs, allL Hd.rng SHd.rng x.body
  work : allL Hd.rng SHd.rng p.work
  recov : allL Hd.rng SHd.rng p.recov
  inv : p.inv.all Hd.rng
theorem Pg.rng_plain {p : Pg α} : p.plain.rng ↔ p.rng := by
  constructor
  · intro h
    exact ⟨(Ex.all_plain _).1 h.req, fun d hd => (Ex.all_plain _).1 (h.inits d.plain (List.mem_map_of_mem hd)), fun d hd => (allL_plain _).1 (h.procs d.plain (List.mem_map_of_mem hd)), (allL_plain _).1 h.work, (allL_plain _).1 h.recov, (Ex.all_plain _).1 h.inv⟩
  · intro h
    refine ⟨(Ex.all_plain _).2 h.req, fun d hd => ?_, fun d hd => ?_, (allL_plain _).2 h.work, (allL_plain _).2 h.recov, (Ex.all_plain _).2 h.inv⟩
    · obtain ⟨y, hy, rfl⟩ := List.mem_map.1 hd
      exact (Ex.all_plain _).2 (h.inits y hy)
    · obtain ⟨y, hy, rfl⟩ := List.mem_map.1 hd
      exact (allL_plain _).2 (h.procs y hy)
theorem wtD_mem {l : List Dc} {x : Dc} (h : x ∈ l) : x.nm.size ≤ wtD l := by
  induction l with
  | nil => cases h
  | cons y r ih =>
    simp only [wtD]
    rcases List.mem_cons.1 h with e | h
    · rw [e]; omega
    · have := ih h; omega
theorem wtN_mem {l : List Dc} {x : Dc} (h : x ∈ l) : x.nm.size ≤ wtN l := by
  induction l with
  | nil => cases h
  | cons y r ih =>
    simp only [wtN]
    rcases List.mem_cons.1 h with e | h
    · rw [e]; omega
    · have := ih h; omega
theorem wtI_mem {l : List (In α)} {x : In α} (h : x ∈ l) : x.val.wt ≤ wtI l := by
  induction l with
  | nil => cases h
  | cons y r ih =>
    simp only [wtI]
    rcases List.mem_cons.1 h with e | h
    · rw [e]; omega
    · have := ih h; omega
theorem wtPr_mem {l : List (Pr α)} {x : Pr α} (h : x ∈ l) : x.nm.size + x.ps.length + wtL x.body + wtN x.ps ≤ wtPr l := by
  induction l with
  | nil => cases h
  | cons y r ih =>
    simp only [wtPr]
    rcases List.mem_cons.1 h with e | h
    · rw [e]; omega
    · have := ih h; omega
theorem Pg.fit_wt {p : Pg α} {M : Nat} (h : p.wt ≤ M) : p.fit M := by
  unfold Pg.wt at h
  exact ⟨fun d hd => by have := wtD_mem hd; omega, fun d hd => by have := wtD_mem hd; omega, fun d hd => by have := wtD_mem hd; omega, fun d hd => by have := wtD_mem hd; omega, Ex.short_wt (by omega),
    ⟨by omega, fun d hd => Ex.short_wt (by have := wtI_mem hd; omega)⟩, ⟨by omega, fun x hx => by
      have h1 := wtPr_mem hx
      exact ⟨by omega, fun d hd => by have := wtN_mem hd; omega, by omega, allL_wt (by omega)⟩⟩, allL_wt (by omega), allL_wt (by omega), Ex.short_wt (by omega)⟩
end
end Go.Proofs.Ytnldbplphgfpeaa
