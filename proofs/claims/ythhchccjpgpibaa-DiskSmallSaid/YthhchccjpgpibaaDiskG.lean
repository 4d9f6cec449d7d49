/- Disks: Seen, Flush. -/
import Derived.Test.YthhchccjpgpibaaDiskF
import Derived.Lib.OwnKind
namespace Go.Proofs.Ythhchccjpgpibaa
open Go Go.RowKit Go.Shelf
set_option linter.unusedVariables false
set_option linter.unusedSimpArgs false
set_option maxHeartbeats 4000000
attribute [local go_sem] Oper.semAt_some
/-- The words as Read tells them, up to a block. -/
def seenTo (D : Dst) (k : Nat) : List Int := (flushW D.ws D.es).take k ++ D.ws.drop k
theorem seenTo_len (D : Dst) (k : Nat) : (seenTo D k).length = D.ws.length := by simp [seenTo, flushW_len]; omega
theorem seenTo_zero (D : Dst) : seenTo D 0 = D.ws := by simp [seenTo]
theorem seenTo_all (D : Dst) : seenTo D D.ws.length = flushW D.ws D.es := by simp [seenTo, ← flushW_len D.es D.ws]
theorem seenTo_succ (D : Dst) (k : Nat) (hk : k < D.ws.length) : (seenTo D k).set k (readD D k) = seenTo D (k + 1) := by
  have hl := flushW_len D.es D.ws
  have hr : readD D k = (flushW D.ws D.es)[k]'(by omega) := by
    unfold readD
    rw [if_pos (by omega), Int.toNat_natCast, List.getElem?_eq_getElem (by omega)]
    rfl
  apply List.ext_getElem?
  intro i
  simp only [seenTo, List.getElem?_set, List.getElem?_append, List.length_append, List.length_take, List.length_drop, List.getElem?_take, List.getElem?_drop]
  by_cases h1 : k = i
  · subst h1
    rw [if_pos rfl, if_pos (by omega), if_pos (by omega), if_pos (by omega), hr, List.getElem?_eq_getElem (by omega)]
  · rw [if_neg h1]
    by_cases h2 : i < k
    · rw [if_pos (by omega), if_pos (by omega), if_pos (by omega), if_pos (by omega)]
    · rw [if_neg (by omega), if_neg (by omega)]
      congr 1
      omega
set_option maxRecDepth 100000 in
theorem seen_dsk {w : World} {base d p : Nat} {v c : Value} {D : Dst} (h : Dsk w base d p v c D) :
    Calls Try.prog 19 #[.pointer (some ⟨d, 0, none⟩)] w fun e w' => ∃ u, e = .returned u ∧ w'.ownsRow w.heap.size 36 1 u D.ws.length ((flushW D.ws D.es).map (Value.int .u32)) ∧ Below w.heap.size w w' := by
  have hn1 := h.ok.n1
  have hn2 := h.ok.n2
  go_enter Try.func19, Try.ntmps19
  go_wp2_with (go_at_call 12; refine (kept_dsk h).mono ?_; rintro e w1 ⟨u, rfl, hu, hB⟩; obtain ⟨A, cap, rfl⟩ := own_form hu)
  obtain ⟨g, cap2, hv, _, _⟩ := hu.form (by omega)
  obtain ⟨rfl, rfl⟩ : A = some ⟨g, 0, none⟩ ∧ cap = cap2 := by injection hv with a b c; exact ⟨a, c⟩
  have hgw : w.heap.size ≤ g := (hu.lt g (by simp [Value.ownBlock])).1
  clear hv
  go_loopw [9] (fun i wr => ∃ k : Nat, k ≤ D.ws.length ∧ i = .int .i64 k ∧ wr.ownsRow w.heap.size 36 1 (.slice (some ⟨g, 0, none⟩) D.ws.length cap) D.ws.length ((seenTo D k).map (Value.int .u32)) ∧ Below w.heap.size w wr) (fun i _ => D.ws.length - (intOf i).toNat)
  case atStart => exact ⟨0, by omega, rfl, by rw [seenTo_zero]; exact hu, hB⟩
  case round =>
    clear hu hB
    obtain ⟨k, hk, rfl, hu, hB⟩ := hrel
    by_cases hlt : k < D.ws.length
    · have hD := h.new hB
      have hlt2 : (k : Int) < (D.ws.length : Int) := by omega
      have hk0 : 0 ≤ (k : Int) := by omega
      have hset := seenTo_succ D k hlt
      replace hset := Lib.hid hset
      go_wp2_with (go_at_call 18; refine (read_dsk hD k (by omega)).mono ?_; rintro e w2 ⟨rfl, hB2⟩; have hu2 := own_only hu (only_of_below [] hB2) (by simp); have hB3 := hB.trans (hB2.mono hB.size); have hlen := seenTo_len D k; have hc := hu2.cellAt k (by omega); rw [List.getElem?_map, List.getElem?_eq_getElem (by omega), Option.map_some] at hc; have hf := hu2.frozenAt k; have hst := (hu2.stored k (.int .u32 (readD D k))).1; rw [← List.map_set, hset.out] at hst; have hB4 := hB3.setCell (p := ⟨g, k, none⟩) hgw (.int .u32 (readD D k)))
      go_roundw
      case rel => exact ⟨k + 1, by omega, by go_num, hst, hB4⟩
      case measure => simp [intOf]; omega
    · obtain rfl : k = D.ws.length := by omega
      go_wp2_with fail
      go_ret
      exact ⟨_, rfl, by rw [seenTo_all] at hu; exact hu, hB⟩
theorem apply38 {w : World} {g n cap base : Nat} {l : List Int} (h : w.ownsRow base 36 1 (.slice (some ⟨g, 0, none⟩) n cap) n (l.map (Value.int .u32))) (b x e : Int) (h0 : 0 ≤ b) (h1 : b < n) :
    Calls Try.prog 38 #[.slice (some ⟨g, 0, none⟩) n cap, .agg #[.int .i64 b, .int .u32 x, .int .i64 e]] w fun r w' => r = .returned (.tuple #[]) ∧ w'.ownsRow base 36 1 (.slice (some ⟨g, 0, none⟩) n cap) n ((l.set b.toNat x).map (Value.int .u32)) ∧ Only [g] w w' := by
  obtain ⟨k, rfl⟩ := Int.eq_ofNat_of_zero_le h0
  have hk : k < n := by omega
  have hl : l.length = n := by have := h.1; simpa using this
  have hh : (w.alloc (.cells #[.int .i64 k, .int .u32 x, .int .i64 e] 38)).ownsRow base 36 1 (.slice (some ⟨g, 0, none⟩) n cap) n (l.map (Value.int .u32)) := own_only h (only_of_below [] ((Below.refl _ w).alloc (Nat.le_refl _) _)) (by simp)
  have hc := hh.cellAt k (by omega)
  rw [List.getElem?_map, List.getElem?_eq_getElem (by omega), Option.map_some] at hc
  have hf := hh.frozenAt k
  have hst := (hh.stored k (.int .u32 x)).1
  rw [← List.map_set] at hst
  have hO := ((Only.refl [g] w).alloc (.cells #[.int .i64 k, .int .u32 x, .int .i64 e] 38)).setCell (p := ⟨g, k, none⟩) (.inl (by simp)) (.int .u32 x)
  generalize l[k]'(by omega) = old at hc
  go_enter Try.func38, Try.ntmps38
  go_wp2
  go_end0
  exact ⟨rfl, by simpa using hst, hO⟩
theorem own_kinds {w : World} {base : Nat} {e e' : TypeId} {size size' n n' : Nat} {v v' : Value} {xs xs' : List Value} (h : w.ownsRow base e size v n xs) (h' : w.ownsRow base e' size' v' n' xs') (hne : e ≠ e') : ∀ k, v.ownBlock = some k → v'.ownBlock ≠ some k := by
  intro k hk hk'
  obtain ⟨c1, f1, e1⟩ := Lib.ownsRow_kind h k hk
  obtain ⟨c2, f2, e2⟩ := Lib.ownsRow_kind h' k hk'
  rw [e1] at e2
  cases e2
  exact hne rfl
theorem flushW_bd (D : Dst) (h : D.Ok) (k : Nat) : ∀ x ∈ flushW D.ws (D.es.take k), 0 ≤ x ∧ x ≤ 65535 := by
  induction k with
  | zero => simpa [flushW] using h.wb
  | succ k ih =>
    rw [List.take_add_one]
    cases hx : D.es[k]? with
    | none => simpa using ih
    | some y =>
      rw [Option.toList_some, flushW_snoc]
      intro x hm
      rcases List.mem_or_eq_of_mem_set hm with hm | rfl
      · exact ih x hm
      · have := h.eb y (List.mem_of_getElem? hx)
        omega
theorem flush_ok (D : Dst) (h : D.Ok) : Dst.Ok { D with ws := flushW D.ws D.es, es := [], ep := 0 } := by
  have := flushW_bd D h D.es.length
  rw [List.take_length] at this
  exact { w1 := h.w1, w2 := h.w2, n1 := by show 1 ≤ (flushW _ _).length; rw [flushW_len]; exact h.n1, n2 := by show (flushW _ _).length ≤ 16; rw [flushW_len]; exact h.n2, wb := this, ec := by simp, eb := by simp, p1 := by simp, p2 := by simp }
set_option maxRecDepth 100000 in
theorem flush_dsk {w : World} {base d p : Nat} {v c : Value} {D : Dst} (h : Dsk w base d p v c D) :
    Calls Try.prog 20 #[.pointer (some ⟨d, 0, none⟩)] w fun e w' => e = .returned (.int .i64 0) ∧ Dsk w' base d p v (.slice none 0 0) { D with ws := flushW D.ws D.es, es := [], ep := 0 } ∧ Only (fpOf d p v c) w w' := by
  have hn1 := h.ok.n1
  have hn2 := h.ok.n2
  have hec := h.ok.ec
  obtain ⟨g, cap, hv, hgb, hgl⟩ := h.hv.form (by omega)
  subst hv
  obtain ⟨A, cc, rfl⟩ := own_form h.hc
  have hcg : ∀ k, (Value.slice A D.es.length cc).ownBlock = some k → k ∉ [g] := fun k hk hm => by
    rw [List.mem_singleton] at hm
    subst hm
    exact own_kinds h.hc h.hv (by decide) k hk rfl
  have hdg : d ∉ [g] := fun hm => by rw [List.mem_singleton] at hm; exact own_blk_ne h.hv h.hd (by decide) (by rw [hm]; rfl)
  have hpg : p ∉ [g] := fun hm => by rw [List.mem_singleton] at hm; exact own_blk_ne h.hv h.hp (by decide) (by rw [hm]; rfl)
  have c2 := h.c2
  go_enter Try.func20, Try.ntmps20
  go_wp2
  go_loopw [12] (fun i wr => ∃ k : Nat, k ≤ D.es.length ∧ i = .int .i64 k ∧ wr.ownsRow base 36 1 (.slice (some ⟨g, 0, none⟩) D.ws.length cap) D.ws.length ((flushW D.ws (D.es.take k)).map (Value.int .u32)) ∧ Only [g] w wr) (fun i _ => D.es.length - (intOf i).toNat)
  case atStart => exact ⟨0, by omega, rfl, by simpa [flushW] using h.hv, Only.refl _ _⟩
  case round =>
    clear c2
    obtain ⟨k, hk, rfl, hr, hO⟩ := hrel
    have hd := h.hd.only hO hdg
    have hp := h.hp.only hO hpg
    have hc := own_only h.hc hO hcg
    by_cases hlt : k < D.es.length
    · obtain ⟨⟨b, x, e⟩, hx⟩ : ∃ y, D.es[k]? = some y := ⟨_, List.getElem?_eq_getElem hlt⟩
      obtain ⟨gc, rfl, _, q0, q1, q2⟩ := own_ent hc hx
      have heb := h.ok.eb _ (List.mem_of_getElem? hx)
      have hlt2 : (k : Int) < (D.es.length : Int) := by omega
      have hk0 : 0 ≤ (k : Int) := by omega
      have c0 := hd.cell 0
      have p0 := hp.cell 0
      simp only [List.getElem?_toArray, List.getElem?_cons_zero] at c0 p0
      have hdl := hd.lt
      have hpl := hp.lt
      dsimp only at q0 q1 q2 heb
      have hr2 : (wr.alloc (.cells #[.int .i64 b, .int .u32 x, .int .i64 e] 38)).ownsRow base 36 1 (.slice (some ⟨g, 0, none⟩) D.ws.length cap) D.ws.length ((flushW D.ws (D.es.take k)).map (Value.int .u32)) := own_only hr (only_of_below [] ((Below.refl _ _).alloc (Nat.le_refl _) _)) (by simp)
      have hO2 := hO.alloc (.cells #[.int .i64 b, .int .u32 x, .int .i64 e] 38)
      have hst : (flushW D.ws (D.es.take k)).set b.toNat x = flushW D.ws (D.es.take (k + 1)) := by rw [List.take_add_one, hx, Option.toList_some, flushW_snoc]
      replace hst := Lib.hid hst
      clear hd hp hc
      go_wp2
      go_region_with (go_at_call 38; refine (apply38 (by exact hr2) b x e (by omega) (by omega)).mono ?_; rintro r w3 ⟨rfl, hr3, hO3⟩; rw [hst.out] at hr3; (first | have hO4 := Only.trans hO2 hO3 | have hO4 := Only.trans (Only.drew hO2) hO3))
      all_goals
        go_wp2
        go_roundw
        case rel => exact ⟨k + 1, by omega, by go_num, hr3, hO4⟩
        case measure => simp [intOf]; omega
    · obtain rfl : k = D.es.length := by omega
      have c1 := hd.cell 1
      have c2 := hd.cell 2
      have c3 := hd.cell 3
      simp only [List.getElem?_toArray, List.getElem?_cons_zero, List.getElem?_cons_succ] at c1 c2 c3
      have f2 := hd.frozen 2
      have f3 := hd.frozen 3
      have hd1 := (hd.set_ 2 (.slice none 0 0)).set_ 3 (.int .i64 0)
      go_wp2
      go_ret
      refine ⟨rfl, ⟨by simpa using hd1, ?_, ?_, World.ownsRow_nil _ _ _ _, h.bd, h.bp, flush_ok D h.ok⟩, ?_⟩
      · exact (hp.far (p := ⟨d, 2, none⟩) (h.hp.ne_ h.hd (by decide)) _).far (p := ⟨d, 3, none⟩) (h.hp.ne_ h.hd (by decide)) _
      · have hO2 := ((Only.refl [d] wr).setCell (p := ⟨d, 2, none⟩) (.inl (by simp)) (.slice none 0 0)).setCell (p := ⟨d, 3, none⟩) (.inl (by simp)) (.int .i64 0)
        rw [List.take_length] at hr
        refine own_cast (own_only hr hO2 (fun k hk hm => ?_)) (flushW_len _ _).symm rfl
        rw [List.mem_singleton] at hm hdg
        have : g = k := by simpa [Value.ownBlock] using hk
        omega
      · have hO2 := hO.more (fq := fpOf d p (.slice (some ⟨g, 0, none⟩) D.ws.length cap) (.slice A D.es.length cc)) (by simp [fpOf, Value.ownBlock])
        exact (hO2.setCell (p := ⟨d, 2, none⟩) (.inl (by simp [fpOf])) _).setCell (p := ⟨d, 3, none⟩) (.inl (by simp [fpOf])) _
end Go.Proofs.Ythhchccjpgpibaa
