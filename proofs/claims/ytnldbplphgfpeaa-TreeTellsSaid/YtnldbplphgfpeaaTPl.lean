/- Trees: expressions, statements, programs, as plain data; what is told of them. -/
import Derived.Test.YtnldbplphgfpeaaRange
import Derived.Test.YtnldbplphgfpeaaLift
import Derived.Test.YtnldbplphgfpeaaGrown
import Derived.Test.YtnldbplphgfpeaaJoin
namespace Go.Proofs.Ytnldbplphgfpeaa
open Go Go.RowKit Go.Shelf
set_option linter.unusedVariables false
set_option linter.unusedSimpArgs false
theorem bl_loop (bs : ByteArray) : ∀ (n i : Nat) (r : List UInt8), bs.size - i = n → ByteArray.toList.loop bs i r = r.reverse ++ bs.data.toList.drop i := by
  have hs : bs.size = bs.data.toList.length := by rw [Array.length_toList]; rfl
  intro n
  induction n with
  | zero =>
    intro i r h
    rw [ByteArray.toList.loop.eq_def, if_neg (by omega)]
    rw [List.drop_eq_nil_of_le (by omega), List.append_nil]
  | succ n ih =>
    intro i r h
    have hi : i < bs.data.toList.length := by omega
    rw [ByteArray.toList.loop.eq_def, if_pos (by omega), ih _ _ (by omega), List.drop_eq_getElem_cons hi, List.reverse_cons, List.append_assoc]
    congr 1
    rw [List.singleton_append]
    congr 1
    have hi' : i < bs.data.size := by simpa using hi
    show bs.data[i]! = _
    rw [getElem!_pos bs.data i hi']
    simp
theorem bl_toList (bs : ByteArray) : bs.toList = bs.data.toList := by
  unfold ByteArray.toList
  rw [bl_loop bs _ 0 [] rfl, List.reverse_nil, List.nil_append, List.drop_zero]
theorem bl_inj {a b : ByteArray} (h : a.toList = b.toList) : a = b := by
  rw [bl_toList, bl_toList] at h
  exact ByteArray.ext (Array.toList_inj.1 h)
/-- The fields of an expression that are no list. -/
structure Hd where
  kd : Int
  op : Int
  va : Int
  wd : Int
  nm : ByteArray
/-- Where a list lies: its address, its capacity. -/
structure Loc where
  A : Option Addr
  c : Nat
inductive Ex (α : Type) where
  | mk (h : Hd) (l : α) (subs : List (Ex α))
structure SHd where
  kd : Int
  nm : ByteArray
  bd : Int
inductive St (α : Type) where
  | mk (h : SHd) (lx lt le : α) (ex : List (Ex α)) (th el : List (St α))
section
variable {α β : Type}
def Ex.h : Ex α → Hd | .mk h _ _ => h
def Ex.l : Ex α → α | .mk _ l _ => l
def Ex.subs : Ex α → List (Ex α) | .mk _ _ s => s
def St.h : St α → SHd | .mk h _ _ _ _ _ _ => h
def St.ex : St α → List (Ex α) | .mk _ _ _ _ e _ _ => e
def St.th : St α → List (St α) | .mk _ _ _ _ _ t _ => t
def St.el : St α → List (St α) | .mk _ _ _ _ _ _ t => t
def St.lx : St α → α | .mk _ l _ _ _ _ _ => l
def St.lt : St α → α | .mk _ _ l _ _ _ _ => l
def St.le : St α → α | .mk _ _ _ l _ _ _ => l
mutual
theorem Ex.ind {P : Ex α → Prop} (h : ∀ hd l subs, (∀ x ∈ subs, P x) → P (.mk hd l subs)) : ∀ e, P e
  | .mk hd l subs => h hd l subs (Ex.inds h subs)
theorem Ex.inds {P : Ex α → Prop} (h : ∀ hd l subs, (∀ x ∈ subs, P x) → P (.mk hd l subs)) : ∀ (l : List (Ex α)), ∀ x ∈ l, P x
  | [], x, hx => by cases hx
  | y :: r, x, hx => by
    rcases List.mem_cons.1 hx with e | hx
    · rw [e]; exact Ex.ind h y
    · exact Ex.inds h r x hx
end
mutual
theorem St.ind {P : St α → Prop} (h : ∀ hd a b c ex th el, (∀ x ∈ th, P x) → (∀ x ∈ el, P x) → P (.mk hd a b c ex th el)) : ∀ s, P s
  | .mk hd a b c ex th el => h hd a b c ex th el (St.inds h th) (St.inds h el)
theorem St.inds {P : St α → Prop} (h : ∀ hd a b c ex th el, (∀ x ∈ th, P x) → (∀ x ∈ el, P x) → P (.mk hd a b c ex th el)) : ∀ (l : List (St α)), ∀ x ∈ l, P x
  | [], x, hx => by cases hx
  | y :: r, x, hx => by
    rcases List.mem_cons.1 hx with e | hx
    · rw [e]; exact St.ind h y
    · exact St.inds h r x hx
end
/-- Induction on lists of statements. -/
theorem St.list {Q : List (St α) → Prop} (h : ∀ l, (∀ s ∈ l, Q s.th ∧ Q s.el) → Q l) (l : List (St α)) : Q l := by
  refine h l (St.inds (P := fun s => Q s.th ∧ Q s.el) (fun hd a b c ex th el h1 h2 => ?_) l)
  exact ⟨h th h1, h el h2⟩
-- sizes
mutual
def Ex.sz : Ex α → Nat
  | .mk _ _ s => 1 + szs s
def szs : List (Ex α) → Nat
  | [] => 0
  | x :: r => x.sz + szs r
end
theorem Ex.sz_pos (e : Ex α) : 1 ≤ e.sz := by cases e; simp only [Ex.sz]; omega
theorem szs_append : ∀ (a b : List (Ex α)), szs (a ++ b) = szs a + szs b
  | [], b => by simp [szs]
  | x :: a, b => by simp only [List.cons_append, szs, szs_append a b]; omega
theorem szs_mem : ∀ {l : List (Ex α)} {x : Ex α}, x ∈ l → x.sz ≤ szs l
  | y :: r, x, h => by
    simp only [szs]
    rcases List.mem_cons.1 h with e | h
    · rw [e]; omega
    · have := szs_mem h; omega
theorem szs_len : ∀ (l : List (Ex α)), l.length ≤ szs l
  | [] => Nat.le_refl _
  | x :: r => by
    have h1 := szs_len r
    have h2 := x.sz_pos
    simp only [List.length_cons, szs]; omega
mutual
def St.sz : St α → Nat
  | .mk _ _ _ _ ex th el => 1 + szs ex + szS th + szS el
def szS : List (St α) → Nat
  | [] => 0
  | x :: r => x.sz + szS r
end
theorem St.sz_pos (e : St α) : 1 ≤ e.sz := by cases e; simp only [St.sz]; omega
theorem szS_append : ∀ (a b : List (St α)), szS (a ++ b) = szS a + szS b
  | [], b => by simp [szS]
  | x :: a, b => by simp only [List.cons_append, szS, szS_append a b]; omega
theorem szS_mem : ∀ {l : List (St α)} {x : St α}, x ∈ l → x.sz ≤ szS l
  | y :: r, x, h => by
    simp only [szS]
    rcases List.mem_cons.1 h with e | h
    · rw [e]; omega
    · have := szS_mem h; omega
theorem szS_len : ∀ (l : List (St α)), l.length ≤ szS l
  | [] => Nat.le_refl _
  | x :: r => by
    have h1 := szS_len r
    have h2 := x.sz_pos
    simp only [List.length_cons, szS]; omega
-- the nodes, each before those in it
mutual
def Ex.nodes : Ex α → List (Ex α)
  | .mk h l s => .mk h l s :: nodess s
def nodess : List (Ex α) → List (Ex α)
  | [] => []
  | x :: r => x.nodes ++ nodess r
end
mutual
theorem Ex.nodes_len : ∀ e : Ex α, e.nodes.length = e.sz
  | .mk h l s => by simp only [Ex.nodes, Ex.sz, List.length_cons, nodess_len s]; omega
theorem nodess_len : ∀ l : List (Ex α), (nodess l).length = szs l
  | [] => rfl
  | x :: r => by simp only [nodess, szs, List.length_append, x.nodes_len, nodess_len r]
end
theorem nodess_append : ∀ (a b : List (Ex α)), nodess (a ++ b) = nodess a ++ nodess b
  | [], b => rfl
  | x :: a, b => by simp only [List.cons_append, nodess, nodess_append a b, List.append_assoc]
/-- The k-th node of the i-th one of a list. -/
theorem nodess_at {l : List (Ex α)} {i k : Nat} {x y : Ex α} (hx : l[i]? = some x) (hy : x.nodes[k]? = some y) : (nodess l)[szs (l.take i) + k]? = some y := by
  obtain ⟨hi, hxi⟩ := List.getElem?_eq_some_iff.1 hx
  have e : nodess l = nodess (l.take i) ++ (x.nodes ++ nodess (l.drop (i + 1))) := by
    conv => lhs; rw [← List.take_append_drop i l, nodess_append, List.drop_eq_getElem_cons hi, hxi]
    rfl
  rw [e, List.getElem?_append_right (by rw [nodess_len]; omega), nodess_len, Nat.add_sub_cancel_left, List.getElem?_append_left (List.getElem?_eq_some_iff.1 hy).1]
  exact hy
theorem szs_take_succ {l : List (Ex α)} {i : Nat} {x : Ex α} (hx : l[i]? = some x) : szs (l.take (i + 1)) = szs (l.take i) + x.sz := by
  obtain ⟨hi, hxi⟩ := List.getElem?_eq_some_iff.1 hx
  rw [List.take_succ_eq_append_getElem hi, szs_append, hxi]
  simp [szs]
mutual
def St.nodes : St α → List (St α)
  | .mk h a b c ex th el => .mk h a b c ex th el :: (nodesS th ++ nodesS el)
def nodesS : List (St α) → List (St α)
  | [] => []
  | x :: r => x.nodes ++ nodesS r
end
theorem nodesS_append : ∀ (a b : List (St α)), nodesS (a ++ b) = nodesS a ++ nodesS b
  | [], b => rfl
  | x :: a, b => by simp only [List.cons_append, nodesS, nodesS_append a b, List.append_assoc]
theorem nodesS_split {l : List (St α)} {i : Nat} {x : St α} (hx : l[i]? = some x) : nodesS l = nodesS (l.take i) ++ (x.nodes ++ nodesS (l.drop (i + 1))) := by
  obtain ⟨hi, hxi⟩ := List.getElem?_eq_some_iff.1 hx
  conv => lhs; rw [← List.take_append_drop i l, nodesS_append, List.drop_eq_getElem_cons hi, hxi]
  rfl
theorem nodesS_take_succ {l : List (St α)} {i : Nat} {x : St α} (hx : l[i]? = some x) : nodesS (l.take (i + 1)) = nodesS (l.take i) ++ x.nodes := by
  obtain ⟨hi, hxi⟩ := List.getElem?_eq_some_iff.1 hx
  rw [List.take_succ_eq_append_getElem hi, nodesS_append, hxi]
  simp [nodesS]
theorem St.nodes_eq (s : St α) : s.nodes = s :: (nodesS s.th ++ nodesS s.el) := by cases s; rfl
-- when two are the same
def Hd.eq (a b : Hd) : Bool := a.kd == b.kd && a.op == b.op && a.va == b.va && a.wd == b.wd && a.nm.toList == b.nm.toList
def SHd.eq (a b : SHd) : Bool := a.kd == b.kd && a.nm.toList == b.nm.toList && a.bd == b.bd
theorem bl_iff {a b : ByteArray} : a.toList = b.toList ↔ a = b := ⟨bl_inj, fun h => by rw [h]⟩
theorem Hd.eq_iff {a b : Hd} : a.eq b = true ↔ a = b := by
  cases a; cases b
  simp [Hd.eq, and_assoc, bl_iff]
theorem SHd.eq_iff {a b : SHd} : a.eq b = true ↔ a = b := by
  cases a; cases b
  simp [SHd.eq, and_assoc, bl_iff]
mutual
def Ex.same : Ex α → Ex β → Bool
  | .mk h _ s, .mk h' _ s' => h.eq h' && sames s s'
def sames : List (Ex α) → List (Ex β) → Bool
  | [], [] => true
  | x :: r, y :: r' => x.same y && sames r r'
  | [], _ :: _ => false
  | _ :: _, [] => false
end
mutual
def St.same : St α → St β → Bool
  | .mk h _ _ _ ex th el, .mk h' _ _ _ ex' th' el' => h.eq h' && (sames ex ex' && (sameS th th' && sameS el el'))
def sameS : List (St α) → List (St β) → Bool
  | [], [] => true
  | x :: r, y :: r' => x.same y && sameS r r'
  | [], _ :: _ => false
  | _ :: _, [] => false
end
-- plain trees
mutual
def Ex.plain : Ex α → Ex Unit
  | .mk h _ s => .mk h () (plains s)
def plains : List (Ex α) → List (Ex Unit)
  | [] => []
  | x :: r => x.plain :: plains r
end
mutual
def St.plain : St α → St Unit
  | .mk h _ _ _ ex th el => .mk h () () () (plains ex) (plainS th) (plainS el)
def plainS : List (St α) → List (St Unit)
  | [] => []
  | x :: r => x.plain :: plainS r
end
theorem plains_map : ∀ l : List (Ex α), plains l = l.map Ex.plain
  | [] => rfl
  | x :: r => by simp only [plains, List.map_cons, plains_map r]
theorem plainS_map : ∀ l : List (St α), plainS l = l.map St.plain
  | [] => rfl
  | x :: r => by simp only [plainS, List.map_cons, plainS_map r]
mutual
theorem Ex.same_iff : ∀ (a : Ex α) (b : Ex β), a.same b = true ↔ a.plain = b.plain
  | .mk h _ s, .mk h' _ s' => by simp only [Ex.same, Ex.plain, Bool.and_eq_true, Hd.eq_iff, sames_iff s s', Ex.mk.injEq, true_and]
theorem sames_iff : ∀ (a : List (Ex α)) (b : List (Ex β)), sames a b = true ↔ plains a = plains b
  | [], [] => by simp [sames, plains]
  | x :: r, y :: r' => by simp only [sames, plains, Bool.and_eq_true, x.same_iff y, sames_iff r r', List.cons.injEq]
  | [], _ :: _ => by simp [sames, plains]
  | _ :: _, [] => by simp [sames, plains]
end
mutual
theorem St.same_iff : ∀ (a : St α) (b : St β), a.same b = true ↔ a.plain = b.plain
  | .mk h _ _ _ ex th el, .mk h' _ _ _ ex' th' el' => by simp only [St.same, St.plain, Bool.and_eq_true, SHd.eq_iff, sames_iff ex ex', sameS_iff th th', sameS_iff el el', St.mk.injEq, true_and]
theorem sameS_iff : ∀ (a : List (St α)) (b : List (St β)), sameS a b = true ↔ plainS a = plainS b
  | [], [] => by simp [sameS, plainS]
  | x :: r, y :: r' => by simp only [sameS, plainS, Bool.and_eq_true, x.same_iff y, sameS_iff r r', List.cons.injEq]
  | [], _ :: _ => by simp [sameS, plainS]
  | _ :: _, [] => by simp [sameS, plainS]
end
mutual
theorem Ex.sz_plain : ∀ e : Ex α, e.plain.sz = e.sz
  | .mk _ _ s => by simp only [Ex.plain, Ex.sz, szs_plain s]
theorem szs_plain : ∀ l : List (Ex α), szs (plains l) = szs l
  | [] => rfl
  | x :: r => by simp only [plains, szs, x.sz_plain, szs_plain r]
end
mutual
theorem St.sz_plain : ∀ e : St α, e.plain.sz = e.sz
  | .mk _ _ _ _ ex th el => by simp only [St.plain, St.sz, szs_plain ex, szS_plain th, szS_plain el]
theorem szS_plain : ∀ l : List (St α), szS (plainS l) = szS l
  | [] => rfl
  | x :: r => by simp only [plainS, szS, x.sz_plain, szS_plain r]
end
/-- Lists of the same length whose elements are the same, one by one. -/
theorem sames_at : ∀ (a : List (Ex α)) (b : List (Ex β)), a.length = b.length → ((sames a b = true) ↔ ∀ (i : Nat) x y, a[i]? = some x → b[i]? = some y → x.same y = true)
  | [], [], _ => by simp [sames]
  | x :: r, y :: r', h => by
    simp only [sames, Bool.and_eq_true]
    rw [sames_at r r' (by simpa using h)]
    constructor
    · rintro ⟨h1, h2⟩ i u v hu hv
      cases i with
      | zero => simp at hu hv; subst hu; subst hv; exact h1
      | succ i => exact h2 i u v (by simpa using hu) (by simpa using hv)
    · intro h
      exact ⟨h 0 x y rfl rfl, fun i u v hu hv => h (i + 1) u v (by simpa using hu) (by simpa using hv)⟩
theorem sames_len : ∀ {a : List (Ex α)} {b : List (Ex β)}, sames a b = true → a.length = b.length
  | [], [], _ => rfl
  | x :: r, y :: r', h => by
    simp only [sames, Bool.and_eq_true] at h
    simp [sames_len h.2]
theorem sameS_at : ∀ (a : List (St α)) (b : List (St β)), a.length = b.length → ((sameS a b = true) ↔ ∀ (i : Nat) x y, a[i]? = some x → b[i]? = some y → x.same y = true)
  | [], [], _ => by simp [sameS]
  | x :: r, y :: r', h => by
    simp only [sameS, Bool.and_eq_true]
    rw [sameS_at r r' (by simpa using h)]
    constructor
    · rintro ⟨h1, h2⟩ i u v hu hv
      cases i with
      | zero => simp at hu hv; subst hu; subst hv; exact h1
      | succ i => exact h2 i u v (by simpa using hu) (by simpa using hv)
    · intro h
      exact ⟨h 0 x y rfl rfl, fun i u v hu hv => h (i + 1) u v (by simpa using hu) (by simpa using hv)⟩
theorem sameS_len : ∀ {a : List (St α)} {b : List (St β)}, sameS a b = true → a.length = b.length
  | [], [], _ => rfl
  | x :: r, y :: r', h => by
    simp only [sameS, Bool.and_eq_true] at h
    simp [sameS_len h.2]
-- how many nodes, up to one more than there may be
/-- How many nodes an expression has, up to 20001, behind some others. -/
def capE (b s : Nat) : Nat := min (b + s) (max (b + 1) 20001)
end
end Go.Proofs.Ytnldbplphgfpeaa
