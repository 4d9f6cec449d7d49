/- Trails: the examples. -/
import Derived.Test.YtkedepkhcbhcdaaTrlH
namespace Go.Proofs.Ytkedepkhcbhcdaa
open Go Go.RowKit Go.Shelf
set_option linter.unusedVariables false
set_option linter.unusedSimpArgs false
set_option maxHeartbeats 4000000
def aT1 : Trl := { n := 4, its := [⟨2, 0, 0⟩], st := [0] }
def aT2 : Trl := { n := 4, its := [⟨2, 0, 0⟩], st := [0, 1] }
def aT3 : Trl := { n := 4, its := [⟨2, 0, 0⟩, ⟨-3, 5, 1⟩], st := [0, 1] }
def aT4 : Trl := { n := 4, its := [⟨2, 0, 0⟩, ⟨-3, 5, 1⟩, ⟨1, 6, 1⟩], st := [0, 1] }
def aT5 : Trl := { n := 4, its := [⟨2, 0, 0⟩, ⟨-3, 5, 1⟩, ⟨1, 6, 1⟩], st := [0, 1, 3] }
def aT6 : Trl := { n := 4, its := [⟨2, 0, 0⟩, ⟨-3, 5, 1⟩, ⟨1, 6, 1⟩, ⟨-4, 0, 2⟩], st := [0, 1, 3] }
set_option maxRecDepth 100000 in
theorem awake_ok (w : World) : Calls Try.prog 18 #[] w fun e w' => e = .returned (.bool true) ∧ Below w.heap.size w w' := by
  have t00 := Lib.hid trivial
  have t01 := Lib.hid trivial
  have t02 := Lib.hid trivial
  have t03 := Lib.hid trivial
  have t04 := Lib.hid trivial
  have t05 := Lib.hid trivial
  have t06 := Lib.hid trivial
  have t07 := Lib.hid trivial
  have t08 := Lib.hid trivial
  have t09 := Lib.hid trivial
  have t10 := Lib.hid trivial
  have t11 := Lib.hid trivial
  have t12 := Lib.hid trivial
  have t13 := Lib.hid trivial
  have t14 := Lib.hid trivial
  have t15 := Lib.hid trivial
  have t16 := Lib.hid trivial
  have t17 := Lib.hid trivial
  have t18 := Lib.hid trivial
  have t19 := Lib.hid trivial
  go_enter Try.func18, Try.ntmps18
  go_wp2_with (first
    | (go_at_call 10; refine (own_new (w := w) 4 (by omega) (Below.refl _ _)).mono ?_; rintro e W' ⟨d, rfl, hS⟩)
    | (go_at_call 13; clear t00; refine (own_assign (D' := aT1) hS 2 0 (e := 0) (by rfl) (by rfl)).mono ?_; rintro e W' ⟨rfl, hS2⟩; clear hS; have hS := hS2; clear hS2)
    | (go_at_call 12; clear t01; refine (own_push (D' := aT2) hS (e := 0) (by rfl) (by rfl)).mono ?_; rintro e W' ⟨rfl, hS2⟩; clear hS; have hS := hS2; clear hS2)
    | (go_at_call 13; clear t02; refine (own_assign (D' := aT3) hS (-3) 5 (e := 0) (by rfl) (by rfl)).mono ?_; rintro e W' ⟨rfl, hS2⟩; clear hS; have hS := hS2; clear hS2)
    | (go_at_call 13; clear t03; refine (own_assign (D' := aT4) hS 1 6 (e := 0) (by rfl) (by rfl)).mono ?_; rintro e W' ⟨rfl, hS2⟩; clear hS; have hS := hS2; clear hS2)
    | (go_at_call 12; clear t04; refine (own_push (D' := aT5) hS (e := 0) (by rfl) (by rfl)).mono ?_; rintro e W' ⟨rfl, hS2⟩; clear hS; have hS := hS2; clear hS2)
    | (go_at_call 13; clear t05; refine (own_assign (D' := aT6) hS (-4) 0 (e := 0) (by rfl) (by rfl)).mono ?_; rintro e W' ⟨rfl, hS2⟩; clear hS; have hS := hS2; clear hS2)
    | (go_at_call 20; clear t06; refine (own_now hS (x := 2) (by rfl)).mono ?_; rintro e W' ⟨rfl, rfl⟩)
    | (go_at_call 23; clear t07; refine (own_len hS (x := 4) (by rfl)).mono ?_; rintro e W' ⟨rfl, rfl⟩)
    | (go_at_call 17; clear t08; refine (own_value hS 3 (x := (-1)) (by rfl)).mono ?_; rintro e W' ⟨rfl, hS2⟩; clear hS; have hS := hS2; clear hS2)
    | (go_at_call 16; clear t09; refine (own_level hS 1 (x := 1) (b := true) (by omega) (by rfl) (by rfl)).mono ?_; rintro e W' ⟨rfl, hS2⟩; clear hS; have hS := hS2; clear hS2)
    | (go_at_call 24; clear t10; refine (own_place hS 1 (x := 2) (b := true) (by omega) (by rfl) (by rfl)).mono ?_; rintro e W' ⟨rfl, hS2⟩; clear hS; have hS := hS2; clear hS2)
    | (go_at_call 14; clear t11; refine (own_reason hS 1 (x := 6) (b := true) (by omega) (by rfl) (by rfl)).mono ?_; rintro e W' ⟨rfl, hS2⟩; clear hS; have hS := hS2; clear hS2)
    | (go_at_call 27; clear t12; refine (own_start hS 2 (x := 3) (e := 0) (by rfl) (by rfl)).mono ?_; rintro e W' ⟨rfl, rfl⟩)
    | (go_at_call 15; clear t13; refine (own_back (D' := aT4) hS 1 (e := 0) (by rfl) (by rfl)).mono ?_; rintro e W' ⟨rfl, hS2⟩; clear hS; have hS := hS2; clear hS2)
    | (go_at_call 23; clear t14; refine (own_len hS (x := 3) (by rfl)).mono ?_; rintro e W' ⟨rfl, rfl⟩)
    | (go_at_call 17; clear t15; refine (own_value hS 4 (x := 0) (by rfl)).mono ?_; rintro e W' ⟨rfl, hS2⟩; clear hS; have hS := hS2; clear hS2)
    | (go_at_call 15; clear t16; refine (own_back (D' := aT1) hS 0 (e := 0) (by rfl) (by rfl)).mono ?_; rintro e W' ⟨rfl, hS2⟩; clear hS; have hS := hS2; clear hS2)
    | (go_at_call 23; clear t17; refine (own_len hS (x := 1) (by rfl)).mono ?_; rintro e W' ⟨rfl, rfl⟩)
    | (go_at_call 13; clear t18; refine (own_assign (D' := aT1) hS (-2) 0 (e := 41) (by rfl) (by rfl)).mono ?_; rintro e W' ⟨rfl, hS2⟩; clear hS; have hS := hS2; clear hS2)
    | (go_at_call 13; clear t19; refine (own_assign (D' := aT1) hS 5 0 (e := 40) (by rfl) (by rfl)).mono ?_; rintro e W' ⟨rfl, hS2⟩; clear hS; have hS := hS2; clear hS2))
  go_ret
  obtain ⟨_, _, hB⟩ := hS
  exact ⟨rfl, hB⟩
end Go.Proofs.Ytkedepkhcbhcdaa
