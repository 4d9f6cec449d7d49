/- Names changed: plain laws; the names of what the maker makes are short. -/
import Derived.Test.YtnldbplphgfpeaaTMb
namespace Go.Proofs.Ytnldbplphgfpeaa
open Go Go.RowKit Go.Shelf
set_option linter.unusedVariables false
set_option linter.unusedSimpArgs false
set_option maxHeartbeats 4000000
mutual
def Ex.small {α : Type} : Ex α → Prop
  | .mk h _ s => h.nm.size ≤ 1 ∧ smalls s
def smalls {α : Type} : List (Ex α) → Prop
  | [] => True
  | x :: r => x.small ∧ smalls r
end
mutual
def St.small {α : Type} : St α → Prop
  | .mk h _ _ _ ex th el => h.nm.size ≤ 1 ∧ smalls ex ∧ smallS th ∧ smallS el
def smallS {α : Type} : List (St α) → Prop
  | [] => True
  | x :: r => x.small ∧ smallS r
end
section
variable {α : Type} {f g : ByteArray → ByteArray}
mutual
theorem Ex.small_plain : ∀ e : Ex α, e.plain.small ↔ e.small
  | .mk h l s => by simp only [Ex.plain, Ex.small, smalls_plain s]
theorem smalls_plain : ∀ l : List (Ex α), smalls (plains l) ↔ smalls l
  | [] => Iff.rfl
  | x :: r => by simp only [plains, smalls, x.small_plain, smalls_plain r]
end
mutual
theorem St.small_plain : ∀ e : St α, e.plain.small ↔ e.small
  | .mk h a b c ex th el => by simp only [St.plain, St.small, smalls_plain ex, smallS_plain th, smallS_plain el]
theorem smallS_plain : ∀ l : List (St α), smallS (plainS l) ↔ smallS l
  | [] => Iff.rfl
  | x :: r => by simp only [plainS, smallS, x.small_plain, smallS_plain r]
end
theorem smallS_append : ∀ (a b : List (St α)), smallS (a ++ b) ↔ smallS a ∧ smallS b
  | [], b => by simp [smallS]
  | x :: a, b => by simp only [List.cons_append, smallS, smallS_append a b, and_assoc]
theorem Hd.ren_ren {h : Hd} (hs : h.nm.size ≤ 1) (hfg : ∀ s, s.size ≤ 1 → g (f s) = s) : (h.ren f).ren g = h := by
  obtain ⟨kd, op, va, wd, nm⟩ := h
  by_cases hk : kd = 2 ∨ kd = 3
  · simp only [Hd.ren, if_pos hk, hfg nm hs]
  · simp only [Hd.ren, if_neg hk]
theorem SHd.ren_ren {h : SHd} (hs : h.nm.size ≤ 1) (hfg : ∀ s, s.size ≤ 1 → g (f s) = s) : (h.ren f).ren g = h := by
  obtain ⟨kd, nm, bd⟩ := h
  by_cases hk : kd = 1 ∨ kd = 2
  · simp only [SHd.ren, if_pos hk, hfg nm hs]
  · simp only [SHd.ren, if_neg hk]
theorem Hd.ren_keep {h : Hd} (hs : h.nm.size ≤ 1) (hf : ∀ s, s.size ≤ 1 → f s = s) : h.ren f = h := by
  obtain ⟨kd, op, va, wd, nm⟩ := h
  by_cases hk : kd = 2 ∨ kd = 3
  · simp only [Hd.ren, if_pos hk, hf nm hs]
  · simp only [Hd.ren, if_neg hk]
theorem SHd.ren_keep {h : SHd} (hs : h.nm.size ≤ 1) (hf : ∀ s, s.size ≤ 1 → f s = s) : h.ren f = h := by
  obtain ⟨kd, nm, bd⟩ := h
  by_cases hk : kd = 1 ∨ kd = 2
  · simp only [SHd.ren, if_pos hk, hf nm hs]
  · simp only [SHd.ren, if_neg hk]
mutual
theorem Ex.ren_back (hfg : ∀ s, s.size ≤ 1 → g (f s) = s) : ∀ e : Ex α, e.small → (e.ren f).ren g = e.plain
  | .mk h l s, hs => by simp only [Ex.ren, Ex.plain, Hd.ren_ren hs.1 hfg, rens_back hfg s hs.2]
theorem rens_back (hfg : ∀ s, s.size ≤ 1 → g (f s) = s) : ∀ l : List (Ex α), smalls l → rens g (rens f l) = plains l
  | [], _ => rfl
  | x :: r, hs => by simp only [rens, plains, x.ren_back hfg hs.1, rens_back hfg r hs.2]
end
mutual
theorem St.ren_back (hfg : ∀ s, s.size ≤ 1 → g (f s) = s) : ∀ e : St α, e.small → (e.ren f).ren g = e.plain
  | .mk h a b c ex th el, hs => by simp only [St.ren, St.plain, SHd.ren_ren hs.1 hfg, rens_back hfg ex hs.2.1, renS_back hfg th hs.2.2.1, renS_back hfg el hs.2.2.2]
theorem renS_back (hfg : ∀ s, s.size ≤ 1 → g (f s) = s) : ∀ l : List (St α), smallS l → renS g (renS f l) = plainS l
  | [], _ => rfl
  | x :: r, hs => by simp only [renS, plainS, x.ren_back hfg hs.1, renS_back hfg r hs.2]
end
mutual
theorem Ex.ren_keep (hf : ∀ s, s.size ≤ 1 → f s = s) : ∀ e : Ex α, e.small → e.ren f = e.plain
  | .mk h l s, hs => by simp only [Ex.ren, Ex.plain, Hd.ren_keep hs.1 hf, rens_keep hf s hs.2]
theorem rens_keep (hf : ∀ s, s.size ≤ 1 → f s = s) : ∀ l : List (Ex α), smalls l → rens f l = plains l
  | [], _ => rfl
  | x :: r, hs => by simp only [rens, plains, x.ren_keep hf hs.1, rens_keep hf r hs.2]
end
mutual
theorem St.ren_keep (hf : ∀ s, s.size ≤ 1 → f s = s) : ∀ e : St α, e.small → e.ren f = e.plain
  | .mk h a b c ex th el, hs => by simp only [St.ren, St.plain, SHd.ren_keep hs.1 hf, rens_keep hf ex hs.2.1, renS_keep hf th hs.2.2.1, renS_keep hf el hs.2.2.2]
theorem renS_keep (hf : ∀ s, s.size ≤ 1 → f s = s) : ∀ l : List (St α), smallS l → renS f l = plainS l
  | [], _ => rfl
  | x :: r, hs => by simp only [renS, plainS, x.ren_keep hf hs.1, renS_keep hf r hs.2]
end
-- a tree in memory that reads as a renamed one, renamed
mutual
theorem Ex.ren_plain : ∀ e : Ex α, e.plain.ren f = e.ren f
  | .mk h l s => by simp only [Ex.ren, Ex.plain, rens_plain s]
theorem rens_plain : ∀ l : List (Ex α), rens f (plains l) = rens f l
  | [] => rfl
  | x :: r => by simp only [rens, plains, x.ren_plain, rens_plain r]
end
mutual
theorem St.ren_plain : ∀ e : St α, e.plain.ren f = e.ren f
  | .mk h a b c ex th el => by simp only [St.ren, St.plain, rens_plain ex, renS_plain th, renS_plain el]
theorem renS_plain : ∀ l : List (St α), renS f (plainS l) = renS f l
  | [] => rfl
  | x :: r => by simp only [renS, plainS, x.ren_plain, renS_plain r]
end
-- sizes, depths
mutual
theorem Ex.sz_ren : ∀ e : Ex α, (e.ren f).sz = e.sz
  | .mk h l s => by simp only [Ex.ren, Ex.sz, szs_ren s]
theorem szs_ren : ∀ l : List (Ex α), szs (rens f l) = szs l
  | [] => rfl
  | x :: r => by simp only [rens, szs, x.sz_ren, szs_ren r]
end
mutual
theorem St.sz_ren : ∀ e : St α, (e.ren f).sz = e.sz
  | .mk h a b c ex th el => by simp only [St.ren, St.sz, szs_ren ex, szS_ren th, szS_ren el]
theorem szS_ren : ∀ l : List (St α), szS (renS f l) = szS l
  | [] => rfl
  | x :: r => by simp only [renS, szS, x.sz_ren, szS_ren r]
end
mutual
theorem St.dp_ren : ∀ e : St α, (e.ren f).dp = e.dp
  | .mk h a b c ex th el => by simp only [St.ren, St.dp, dpS_ren th, dpS_ren el]
theorem dpS_ren : ∀ l : List (St α), dpS (renS f l) = dpS l
  | [] => rfl
  | x :: r => by simp only [renS, dpS, x.dp_ren, dpS_ren r]
end
-- calls
mutual
theorem St.heads_ren : ∀ e : St α, (e.ren f).nodes.map St.h = e.nodes.map fun x => x.h.ren f
  | .mk h a b c ex th el => by simp only [St.ren, St.nodes, List.map_cons, List.map_append, headsS_ren th, headsS_ren el]; rfl
theorem headsS_ren : ∀ l : List (St α), (nodesS (renS f l)).map St.h = (nodesS l).map fun x => x.h.ren f
  | [] => rfl
  | x :: r => by simp only [renS, nodesS, List.map_append, x.heads_ren, headsS_ren r]
end
def stepCh (acc : List ByteArray) (h : SHd) : List ByteArray := if h.kd = 8 then withL acc h.nm else acc
theorem foldC_heads : ∀ (l : List (St α)) (acc : List ByteArray), l.foldl stepC acc = (l.map St.h).foldl stepCh acc
  | [], _ => rfl
  | x :: l, acc => by simp only [List.foldl_cons, List.map_cons]; exact foldC_heads l _
theorem stepCh_ren (acc : List ByteArray) (h : SHd) : stepCh acc (h.ren f) = stepCh acc h := by
  obtain ⟨kd, nm, bd⟩ := h
  by_cases hk : kd = 1 ∨ kd = 2
  · have h8 : ¬ kd = 8 := by omega
    simp only [SHd.ren, if_pos hk, stepCh, if_neg h8]
  · simp only [SHd.ren, if_neg hk]
theorem callsS_ren (l : List (St α)) : callsS (renS f l) = callsS l := by
  unfold callsS
  rw [foldC_heads, foldC_heads, headsS_ren]
  generalize nodesS l = ns
  suffices h : ∀ acc, (ns.map fun x => x.h.ren f).foldl stepCh acc = (ns.map St.h).foldl stepCh acc from h []
  induction ns with
  | nil => intro acc; rfl
  | cons x ns ih => intro acc; simp only [List.map_cons, List.foldl_cons, stepCh_ren]; exact ih _
mutual
theorem St.heads_plain : ∀ e : St α, e.plain.nodes.map St.h = e.nodes.map St.h
  | .mk h a b c ex th el => by simp only [St.plain, St.nodes, List.map_cons, List.map_append, headsS_plain th, headsS_plain el]; rfl
theorem headsS_plain : ∀ l : List (St α), (nodesS (plainS l)).map St.h = (nodesS l).map St.h
  | [] => rfl
  | x :: r => by simp only [plainS, nodesS, List.map_append, x.heads_plain, headsS_plain r]
end
theorem callsS_plain (l : List (St α)) : callsS (plainS l) = callsS l := by
  unfold callsS
  rw [foldC_heads, foldC_heads, headsS_plain]
-- names
mutual
theorem Ex.heads_ren : ∀ e : Ex α, (e.ren f).nodes.map Ex.h = e.nodes.map fun x => x.h.ren f
  | .mk h l s => by simp only [Ex.ren, Ex.nodes, List.map_cons, headss_ren s]; rfl
theorem headss_ren : ∀ l : List (Ex α), (nodess (rens f l)).map Ex.h = (nodess l).map fun x => x.h.ren f
  | [] => rfl
  | x :: r => by simp only [rens, nodess, List.map_append, x.heads_ren, headss_ren r]
end
mutual
theorem Ex.heads_plain : ∀ e : Ex α, e.plain.nodes.map Ex.h = e.nodes.map Ex.h
  | .mk h l s => by simp only [Ex.plain, Ex.nodes, List.map_cons, headss_plain s]; rfl
theorem headss_plain : ∀ l : List (Ex α), (nodess (plains l)).map Ex.h = (nodess l).map Ex.h
  | [] => rfl
  | x :: r => by simp only [plains, nodess, List.map_append, x.heads_plain, headss_plain r]
end
def stepNh (acc : List ByteArray) (h : Hd) : List ByteArray := if h.kd = 2 ∨ h.kd = 3 then withL acc h.nm else acc
theorem foldN_heads : ∀ (l : List (Ex α)) (acc : List ByteArray), l.foldl stepN acc = (l.map Ex.h).foldl stepNh acc
  | [], _ => rfl
  | x :: l, acc => by simp only [List.foldl_cons, List.map_cons]; exact foldN_heads l _
theorem namesE_plain (e : Ex α) : namesE e.plain = namesE e := by
  unfold namesE
  rw [foldN_heads, foldN_heads, Ex.heads_plain]
mutual
theorem Ex.small_heads : ∀ e : Ex α, e.small → ∀ h ∈ e.nodes.map Ex.h, h.nm.size ≤ 1
  | .mk h l s, hs, x, hx => by
    simp only [Ex.nodes, List.map_cons, List.mem_cons] at hx
    rcases hx with rfl | hx
    · exact hs.1
    · exact smalls_heads s hs.2 x hx
theorem smalls_heads : ∀ l : List (Ex α), smalls l → ∀ h ∈ (nodess l).map Ex.h, h.nm.size ≤ 1
  | [], _, x, hx => by cases hx
  | y :: r, hs, x, hx => by
    simp only [nodess, List.map_append, List.mem_append] at hx
    rcases hx with hx | hx
    · exact y.small_heads hs.1 x hx
    · exact smalls_heads r hs.2 x hx
end
theorem withL_map (hf : ∀ s t, s.size ≤ 1 → t.size ≤ 1 → f s = f t → s = t) {acc : List ByteArray} (ha : ∀ s ∈ acc, s.size ≤ 1) {n : ByteArray} (hn : n.size ≤ 1) : withL (acc.map f) (f n) = (withL acc n).map f := by
  have h : hasL (acc.map f) (f n) = hasL acc n := by
    rw [Bool.eq_iff_iff, hasL_iff, hasL_iff, List.mem_map]
    constructor
    · rintro ⟨s, hs, e⟩
      rw [← hf s n (ha s hs) hn e]; exact hs
    · exact fun hs => ⟨n, hs, rfl⟩
  unfold withL
  rw [h]
  split <;> simp
theorem withL_small {acc : List ByteArray} (ha : ∀ s ∈ acc, s.size ≤ 1) {n : ByteArray} (hn : n.size ≤ 1) : ∀ s ∈ withL acc n, s.size ≤ 1 := by
  unfold withL
  split
  · exact ha
  · intro s hs
    rcases List.mem_append.1 hs with hs | hs
    · exact ha s hs
    · rw [List.mem_singleton] at hs; rw [hs]; exact hn
theorem foldN_ren (hf : ∀ s t, s.size ≤ 1 → t.size ≤ 1 → f s = f t → s = t) : ∀ (hs : List Hd) (acc : List ByteArray), (∀ h ∈ hs, h.nm.size ≤ 1) → (∀ s ∈ acc, s.size ≤ 1) → (hs.map (Hd.ren f)).foldl stepNh (acc.map f) = (hs.foldl stepNh acc).map f
  | [], acc, _, _ => rfl
  | h :: hs, acc, h1, h2 => by
    simp only [List.map_cons, List.foldl_cons]
    have hh := h1 h (by simp)
    obtain ⟨kd, op, va, wd, nm⟩ := h
    by_cases hk : kd = 2 ∨ kd = 3
    · have e1 : stepNh (acc.map f) (Hd.ren f ⟨kd, op, va, wd, nm⟩) = (withL acc nm).map f := by
        simp only [Hd.ren, if_pos hk, stepNh]
        exact withL_map hf h2 hh
      have e2 : stepNh acc ⟨kd, op, va, wd, nm⟩ = withL acc nm := by simp only [stepNh, if_pos hk]
      rw [e1, e2]
      exact foldN_ren hf hs _ (fun x hx => h1 x (by simp [hx])) (withL_small h2 hh)
    · have e1 : stepNh (acc.map f) (Hd.ren f ⟨kd, op, va, wd, nm⟩) = acc.map f := by simp only [Hd.ren, if_neg hk, stepNh]
      have e2 : stepNh acc ⟨kd, op, va, wd, nm⟩ = acc := by simp only [stepNh, if_neg hk]
      rw [e1, e2]
      exact foldN_ren hf hs _ (fun x hx => h1 x (by simp [hx])) h2
/-- What is renamed uses the names renamed. -/
theorem namesE_ren (hf : ∀ s t, s.size ≤ 1 → t.size ≤ 1 → f s = f t → s = t) (e : Ex α) (hs : e.small) : namesE (e.ren f) = (namesE e).map f := by
  unfold namesE
  rw [foldN_heads, foldN_heads, Ex.heads_ren]
  have := foldN_ren hf (e.nodes.map Ex.h) [] (e.small_heads hs) (fun s hs => by cases hs)
  rw [List.map_map] at this
  exact this
end
-- changes of names
def sNew : ByteArray := ⟨#[110, 101, 119]⟩
def sOther : ByteArray := ⟨#[111, 116, 104, 101, 114]⟩
theorem chg_eq (a b s : ByteArray) : chg a b s = if s = a then b else s := by
  unfold chg
  by_cases h : s = a
  · subst h; simp
  · have : ¬ (s.toList == a.toList) = true := by
      rw [beq_iff_eq, bl_iff]; exact h
    rw [if_neg this, if_neg h]
theorem size_new : sNew.size = 3 := rfl
theorem size_other : sOther.size = 5 := rfl
theorem chg_back (a : ByteArray) : ∀ s : ByteArray, s.size ≤ 1 → chg sNew a (chg a sNew s) = s := fun s hs => by
  rw [chg_eq a]
  by_cases h : s = a
  · rw [if_pos h, chg_eq, if_pos rfl, h]
  · rw [if_neg h, chg_eq, if_neg (fun e => by rw [e, size_new] at hs; omega)]
theorem chg_other : ∀ s : ByteArray, s.size ≤ 1 → chg sOther sNew s = s := fun s hs => by
  rw [chg_eq, if_neg (fun e => by rw [e, size_other] at hs; omega)]
theorem chg_inj (a : ByteArray) : ∀ s t : ByteArray, s.size ≤ 1 → t.size ≤ 1 → chg a sNew s = chg a sNew t → s = t := fun s t hs ht h => by
  rw [← chg_back a s hs, ← chg_back a t ht, h]
-- what the maker makes
theorem leafM_small (e : EvP) (he : ∀ wh, ∀ d ∈ alls e wh, d.nm.size ≤ 1) (width wh : Nat) (r : List Nat) : (leafM e width wh r).1.small := by
  unfold leafM
  split
  · refine ⟨?_, trivial⟩
    cases hx : (namesOf (alls e wh) width)[(nx 8 r).1 % (namesOf (alls e wh) width).length]? with
    | none => show (⟨#[]⟩ : ByteArray).size ≤ 1; decide
    | some s =>
      have hm := List.mem_of_getElem? hx
      obtain ⟨d, hd, rfl⟩ := List.mem_map.1 hm
      exact he wh d (List.mem_filter.1 hd).1
  · exact ⟨Nat.zero_le _, trivial⟩
theorem exprM_small (e : EvP) (he : ∀ wh, ∀ d ∈ alls e wh, d.nm.size ≤ 1) : ∀ (d width wh : Nat) (r : List Nat), (exprM e d width wh r).1.small
  | 0, width, wh, r => leafM_small e he width wh r
  | d + 1, width, wh, r => by
    have z : (⟨#[]⟩ : ByteArray).size ≤ 1 := by decide
    have z1 : sA.size ≤ 1 := by decide
    have ih := fun a b c => exprM_small e he d a b c
    simp only [exprM]
    split
    · exact leafM_small e he width wh _
    · split
      · exact ⟨z, ih _ _ _, ih _ _ _, trivial⟩
      · split
        · exact ⟨z, ih _ _ _, ih _ _ _, trivial⟩
        · split
          · exact ⟨z, ih _ _ _, ih _ _ _, ih _ _ _, trivial⟩
          · split
            · split
              · exact ⟨z, ih _ _ _, trivial⟩
              · exact ⟨z, ih _ _ _, trivial⟩
            · split
              · exact ⟨z, ih _ _ _, trivial⟩
              · split
                · exact ⟨z1, ih _ _ _, trivial⟩
                · exact leafM_small e he width wh _
theorem rep_small {f : List Nat → St Unit × List Nat} (hf : ∀ r, (f r).1.small) : ∀ (n : Nat) (r : List Nat), smallS (rep f n r).1
  | 0, r => trivial
  | n + 1, r => by
    simp only [rep, smallS_append]
    exact ⟨rep_small hf n r, hf _, trivial⟩
theorem oneG_small (e : EvP) (he : ∀ wh, ∀ d ∈ alls e wh, d.nm.size ≤ 1) (inner : Option (List Nat → St Unit × List Nat)) (flat : List Nat → St Unit × List Nat) (hf : ∀ f, inner = some f → ∀ r, (f r).1.small) (hF : ∀ r, inner.isSome = true → (flat r).1.small) (r : List Nat) : (oneG e inner flat r).1.small := by
  have z : (⟨#[]⟩ : ByteArray).size ≤ 1 := by decide
  have zA : sA.size ≤ 1 := by decide
  have zC : sC.size ≤ 1 := by decide
  have zG : sG.size ≤ 1 := by decide
  have zH : sH.size ≤ 1 := by decide
  have zV : sV.size ≤ 1 := by decide
  have zP : sP.size ≤ 1 := by decide
  have hx := fun d a b c => exprM_small e he d a b c
  have hl := fun a b c => leafM_small e he a b c
  simp only [oneG]
  split
  · exact ⟨z, ⟨hx _ _ _ _, hx _ _ _ _, trivial⟩, trivial, trivial⟩
  · split
    · exact ⟨z, trivial, trivial, trivial⟩
    · split
      · exact ⟨z, trivial, trivial, trivial⟩
      · split
        · refine ⟨?_, ⟨hx _ _ _ _, trivial⟩, trivial, trivial⟩
          show (setD e (nx 4 (nx 16 r).2).1).1.size ≤ 1
          unfold setD
          split
          · exact zV
          · split
            · exact zC
            · split
              · exact zG
              · exact zH
        · split
          · exact ⟨zA, ⟨hx _ _ _ _, hx _ _ _ _, trivial⟩, trivial, trivial⟩
          · split
            · rename_i hc
              obtain ⟨f, hfe⟩ := Option.isSome_iff_exists.1 hc.2
              subst hfe
              exact ⟨z, ⟨hx _ _ _ _, trivial⟩, rep_small (hf f rfl) _ _, rep_small (hf f rfl) _ _⟩
            · split
              · rename_i hc
                refine ⟨z, ⟨⟨z, ⟨zC, trivial⟩, ⟨z, trivial⟩, trivial⟩, trivial⟩, ?_, trivial⟩
                rw [smallS_append]
                exact ⟨rep_small (fun r => hF r hc.2) _ _, ⟨zC, ⟨⟨z, ⟨zC, trivial⟩, ⟨z, trivial⟩, trivial⟩, trivial⟩, trivial, trivial⟩, trivial⟩
              · split
                · exact ⟨zP, ⟨hx _ _ _ _, trivial⟩, trivial, trivial⟩
                · exact ⟨z, ⟨hl _ _ _, hl _ _ _, trivial⟩, trivial, trivial⟩
theorem one0_small (e : EvP) (he : ∀ wh, ∀ d ∈ alls e wh, d.nm.size ≤ 1) (r : List Nat) : (one0 e r).1.small := oneG_small e he none _ (fun f h => by cases h) (fun r h => by cases h) r
theorem oneM_small (e : EvP) (he : ∀ wh, ∀ d ∈ alls e wh, d.nm.size ≤ 1) : ∀ (d : Nat) (r : List Nat), (oneM e d r).1.small
  | 0, r => one0_small e he r
  | d + 1, r => oneG_small e he (some (oneM e d)) (one0 e) (fun f h r => by injection h with h; subst h; exact oneM_small e he d r) (fun r _ => one0_small e he r) r
theorem stmtsM_small (e : EvP) (he : ∀ wh, ∀ d ∈ alls e wh, d.nm.size ≤ 1) (most deep : Nat) (r : List Nat) : smallS (stmtsM e most deep r).1 := rep_small (oneM_small e he deep) _ _
theorem madeM_small (l : List Nat) : smallS (madeM l).work ∧ smallS (madeM l).recov ∧ (madeM l).inv.small := by
  have he : ∀ (w k : Nat) (p h : Bool) (wh : Nat), ∀ d ∈ alls ⟨w, ([⟨sI, (w : Int), 0⟩, ⟨sJ, 1, 0⟩] : List Dc).take k, [⟨sG, (w : Int), 0⟩, ⟨sH, 1, 0⟩], [⟨sV, (w : Int), 0⟩, ⟨sC, 2, 0⟩], p, h⟩ wh, d.nm.size ≤ 1 := fun w k p h wh d hd => by
    have hI : sI.size ≤ 1 := by decide
    have hJ : sJ.size ≤ 1 := by decide
    have hG : sG.size ≤ 1 := by decide
    have hH : sH.size ≤ 1 := by decide
    have hV : sV.size ≤ 1 := by decide
    have hC : sC.size ≤ 1 := by decide
    have hX : sX.size ≤ 1 := by decide
    simp only [alls, List.mem_append] at hd
    rcases hd with hd | hd | hd
    · have := List.mem_of_mem_take hd
      simp only [List.mem_cons, List.not_mem_nil, or_false] at this
      rcases this with rfl | rfl
      · exact hI
      · exact hJ
    · split at hd
      · simp only [List.mem_cons, List.not_mem_nil, or_false] at hd
        rcases hd with rfl | rfl
        · exact hG
        · exact hH
      · cases hd
    · split at hd
      · simp only [List.mem_append, List.mem_cons, List.not_mem_nil, or_false] at hd
        rcases hd with (rfl | rfl) | hd
        · exact hV
        · exact hC
        · split at hd
          · rw [List.mem_singleton] at hd
            subst hd
            exact hX
          · cases hd
      · cases hd
  unfold madeM
  simp only
  exact ⟨stmtsM_small _ (he _ _ _ _) _ _ _, stmtsM_small _ (he _ _ _ _) _ _ _, exprM_small _ (he _ _ _ _) _ _ _ _⟩
end Go.Proofs.Ytnldbplphgfpeaa
