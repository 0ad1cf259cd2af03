-- Packed by wip/pack.py.
import Derived.Test.Ytjffojmpfdoodaaqb5
import Derived.Test.Ytjffojmpfdoodaaqrx44
-- written by wip/xprint.py out of the translation (the kit's printer, driven)
namespace Go.Proofs.Ytjffojmpfdoodaa.X
open Go.RowKit Go.Proofs.YtjffojmpfdoodaaW.PrintWords Go.Proofs.YtjffojmpfdoodaaW.PrintLast Go.Proofs.YtjffojmpfdoodaaW.PrintMore
attribute [local go_sem] cell_twice max2_int min2_int max_two min_two max_three min_three max_four min_four   -- for this text's walks alone
set_option linter.unusedVariables false
set_option linter.unusedSimpArgs false

attribute [local go_sem high] eqA24
/-! ### sizarlaw26_WaitingOthers: function 3 -/
mutual
def sizarlaw26_WaitingOthers.l0 : Nat → List (S26) → List (S26) → List (S26) → Int → Int → Int → Int → Int → Int → Int → Option (Bool)
  | 0, _, _, _, _, _, _, _, _, _, _ => none
  | k + 1, x0, x5, x32, x33, x34, x471000, x471001, x471002, x471003, x471004 => if x34 < x33 then (if 0 ≤ x34 then (if x34 < (x32.length : Int) then ((waiting_Place.f k x0 ((rd_T26 x32 x34).f0) ((rd_T26 x32 x34).f1.f0) ((rd_T26 x32 x34).f1.f1)).bind fun bt485 => ((waiting_Place.f k x5 ((rd_T26 x32 x34).f0) ((rd_T26 x32 x34).f1.f0) ((rd_T26 x32 x34).f1.f1)).bind fun bt487 => (if (((rd_T26 x32 x34).f1.f0) == x471001 && (((rd_T26 x32 x34).f1.f1) == x471002)) = true then ((sizarlaw26_less.f x471000 x471001 x471002 x471003 x471004 ((rd_T26 x32 x34).f0) ((rd_T26 x32 x34).f1.f0) ((rd_T26 x32 x34).f1.f1) ((rd_T26 x32 x34).f2) ((rd_T26 x32 x34).f3)).bind fun t489 => (sizarlaw26_WaitingOthers.j1 k x0 x5 bt485.1 bt485.2 bt487.1 bt487.2 0 x32 x33 x34 t489 x471000 x471001 x471002 x471003 x471004 ((rd_T26 x32 x34).f0) ((rd_T26 x32 x34).f1.f0) ((rd_T26 x32 x34).f1.f1) ((rd_T26 x32 x34).f2) ((rd_T26 x32 x34).f3))) else (sizarlaw26_WaitingOthers.j1 k x0 x5 bt485.1 bt485.2 bt487.1 bt487.2 0 x32 x33 x34 false x471000 x471001 x471002 x471003 x471004 ((rd_T26 x32 x34).f0) ((rd_T26 x32 x34).f1.f0) ((rd_T26 x32 x34).f1.f1) ((rd_T26 x32 x34).f2) ((rd_T26 x32 x34).f3))))) else (none)) else (none)) else ((waiting_Of.f k x5 x471000).bind fun t477 => ((waiting_Of.f k x0 x471000).bind fun t480 => (some ((t477.length : Int) == (wrap64 ((t480.length : Int) + 1))))))
def sizarlaw26_WaitingOthers.j1 : Nat → List (S26) → List (S26) → Int → Bool → Int → Bool → Int → List (S26) → Int → Int → Bool → Int → Int → Int → Int → Int → Int → Int → Int → Int → Int → Option (Bool)
  | 0, _, _, _, _, _, _, _, _, _, _, _, _, _, _, _, _, _, _, _, _, _ => none
  | k + 1, x0, x5, x9, x10, x11, x12, x13, x32, x33, x34, x65, x471000, x471001, x471002, x471003, x471004, x485000, x485001, x485002, x485003, x485004 => if x65 = true then (sizarlaw26_WaitingOthers.j2 k x0 x5 x9 x10 x11 x12 1 x32 x33 x34 x471000 x471001 x471002 x471003 x471004 x485000 x485001 x485002 x485003 x485004) else (sizarlaw26_WaitingOthers.j2 k x0 x5 x9 x10 x11 x12 x13 x32 x33 x34 x471000 x471001 x471002 x471003 x471004 x485000 x485001 x485002 x485003 x485004)
def sizarlaw26_WaitingOthers.j2 : Nat → List (S26) → List (S26) → Int → Bool → Int → Bool → Int → List (S26) → Int → Int → Int → Int → Int → Int → Int → Int → Int → Int → Int → Int → Option (Bool)
  | 0, _, _, _, _, _, _, _, _, _, _, _, _, _, _, _, _, _, _, _, _ => none
  | k + 1, x0, x5, x9, x10, x11, x12, x13, x32, x33, x34, x471000, x471001, x471002, x471003, x471004, x485000, x485001, x485002, x485003, x485004 => if x10 = true then (if x12 = true then (sizarlaw26_WaitingOthers.j3 k x0 x5 x32 x33 x34 (x11 != (wrap64 (x9 + x13))) x471000 x471001 x471002 x471003 x471004 x485000 x485001 x485002 x485003 x485004) else (sizarlaw26_WaitingOthers.j3 k x0 x5 x32 x33 x34 true x471000 x471001 x471002 x471003 x471004 x485000 x485001 x485002 x485003 x485004)) else (sizarlaw26_WaitingOthers.j3 k x0 x5 x32 x33 x34 true x471000 x471001 x471002 x471003 x471004 x485000 x485001 x485002 x485003 x485004)
def sizarlaw26_WaitingOthers.j3 : Nat → List (S26) → List (S26) → List (S26) → Int → Int → Bool → Int → Int → Int → Int → Int → Int → Int → Int → Int → Int → Option (Bool)
  | 0, _, _, _, _, _, _, _, _, _, _, _, _, _, _, _, _ => none
  | k + 1, x0, x5, x32, x33, x34, x78, x471000, x471001, x471002, x471003, x471004, x485000, x485001, x485002, x485003, x485004 => if x78 = true then (none) else ((waiting_Of.f k x0 x485000).bind fun t490 => ((waiting_Of.f k x5 x485000).bind fun t493 => (if x485000 = x471000 then (sizarlaw26_WaitingOthers.l0 k x0 x5 x32 x33 (wrap64 (x34 + 1)) x471000 x471001 x471002 x471003 x471004) else ((sizarref26_SameBundles.f k t490 t493).bind fun t496 => (if t496 = true then (sizarlaw26_WaitingOthers.l0 k x0 x5 x32 x33 (wrap64 (x34 + 1)) x471000 x471001 x471002 x471003 x471004) else (none))))))
end
def sizarlaw26_WaitingOthers.f (k : Nat) (l0 : List (S26)) (a1_0 : Int) (a1_1 : Int) (a1_2 : Int) (a1_3 : Int) (a1_4 : Int) : Option (Bool) := (sizarlaw26_sane.f k).bind fun t471 => (if t471 = true then ((sizarref26_Few.f l0).bind fun t472 => (if t472 = true then ((waiting_Join.f k l0 a1_0 a1_1 a1_2 a1_3 a1_4).bind fun bt473 => (if bt473.2 = 0 then (sizarlaw26_WaitingOthers.l0 k l0 bt473.1 l0 (l0.length : Int) 0 a1_0 a1_1 a1_2 a1_3 a1_4) else (some ((bt473.1.length : Int) == 0)))) else (some true))) else (none))
theorem sizarlaw26_WaitingOthers.mono_l : ∀ k, (∀ y0 y1 y2 y3 y4 y5 y6 y7 y8 y9, LeO (sizarlaw26_WaitingOthers.l0 k y0 y1 y2 y3 y4 y5 y6 y7 y8 y9) (sizarlaw26_WaitingOthers.l0 (k + 1) y0 y1 y2 y3 y4 y5 y6 y7 y8 y9)) ∧ (∀ y0 y1 y2 y3 y4 y5 y6 y7 y8 y9 y10 y11 y12 y13 y14 y15 y16 y17 y18 y19 y20, LeO (sizarlaw26_WaitingOthers.j1 k y0 y1 y2 y3 y4 y5 y6 y7 y8 y9 y10 y11 y12 y13 y14 y15 y16 y17 y18 y19 y20) (sizarlaw26_WaitingOthers.j1 (k + 1) y0 y1 y2 y3 y4 y5 y6 y7 y8 y9 y10 y11 y12 y13 y14 y15 y16 y17 y18 y19 y20)) ∧ (∀ y0 y1 y2 y3 y4 y5 y6 y7 y8 y9 y10 y11 y12 y13 y14 y15 y16 y17 y18 y19, LeO (sizarlaw26_WaitingOthers.j2 k y0 y1 y2 y3 y4 y5 y6 y7 y8 y9 y10 y11 y12 y13 y14 y15 y16 y17 y18 y19) (sizarlaw26_WaitingOthers.j2 (k + 1) y0 y1 y2 y3 y4 y5 y6 y7 y8 y9 y10 y11 y12 y13 y14 y15 y16 y17 y18 y19)) ∧ (∀ y0 y1 y2 y3 y4 y5 y6 y7 y8 y9 y10 y11 y12 y13 y14 y15, LeO (sizarlaw26_WaitingOthers.j3 k y0 y1 y2 y3 y4 y5 y6 y7 y8 y9 y10 y11 y12 y13 y14 y15) (sizarlaw26_WaitingOthers.j3 (k + 1) y0 y1 y2 y3 y4 y5 y6 y7 y8 y9 y10 y11 y12 y13 y14 y15))
  | 0 => ⟨fun _ _ _ _ _ _ _ _ _ _ r h => by simp [sizarlaw26_WaitingOthers.l0] at h, fun _ _ _ _ _ _ _ _ _ _ _ _ _ _ _ _ _ _ _ _ _ r h => by simp [sizarlaw26_WaitingOthers.j1] at h, fun _ _ _ _ _ _ _ _ _ _ _ _ _ _ _ _ _ _ _ _ r h => by simp [sizarlaw26_WaitingOthers.j2] at h, fun _ _ _ _ _ _ _ _ _ _ _ _ _ _ _ _ r h => by simp [sizarlaw26_WaitingOthers.j3] at h⟩
  | k + 1 => by
    obtain ⟨ih0, ih1, ih2, ih3⟩ := sizarlaw26_WaitingOthers.mono_l k
    refine ⟨?_, ?_, ?_, ?_⟩
    · intro y0 y1 y2 y3 y4 y5 y6 y7 y8 y9
      unfold sizarlaw26_WaitingOthers.l0
      repeat' first
      | (with_reducible exact ih0 _ _ _ _ _ _ _ _ _ _)
      | (with_reducible exact ih1 _ _ _ _ _ _ _ _ _ _ _ _ _ _ _ _ _ _ _ _ _)
      | (with_reducible exact ih2 _ _ _ _ _ _ _ _ _ _ _ _ _ _ _ _ _ _ _ _)
      | (with_reducible exact ih3 _ _ _ _ _ _ _ _ _ _ _ _ _ _ _ _)
      | (with_reducible exact sizarlaw26_sane.mono _)
      | (with_reducible exact sizarref26_SameBundles.mono _ _ _)
      | (with_reducible exact waiting_Join.mono _ _ _ _ _ _ _)
      | (with_reducible exact waiting_Of.mono _ _ _)
      | (with_reducible exact waiting_Place.mono _ _ _ _ _)
      | (with_reducible exact LeO.refl _)
      | (with_reducible exact LeO.none _)
      | (with_reducible refine LeO.ite ?_ ?_)
      | (with_reducible refine LeO.bind ?_ (fun _ => ?_))
      | exact ih0 _ _ _ _ _ _ _ _ _ _
      | exact ih1 _ _ _ _ _ _ _ _ _ _ _ _ _ _ _ _ _ _ _ _ _
      | exact ih2 _ _ _ _ _ _ _ _ _ _ _ _ _ _ _ _ _ _ _ _
      | exact ih3 _ _ _ _ _ _ _ _ _ _ _ _ _ _ _ _
      | exact sizarlaw26_sane.mono _
      | exact sizarref26_SameBundles.mono _ _ _
      | exact waiting_Join.mono _ _ _ _ _ _ _
      | exact waiting_Of.mono _ _ _
      | exact waiting_Place.mono _ _ _ _ _
      | exact LeO.none _
      | refine LeO.ite ?_ ?_
      | refine LeO.bind ?_ (fun _ => ?_)
    · intro y0 y1 y2 y3 y4 y5 y6 y7 y8 y9 y10 y11 y12 y13 y14 y15 y16 y17 y18 y19 y20
      unfold sizarlaw26_WaitingOthers.j1
      repeat' first
      | (with_reducible exact ih0 _ _ _ _ _ _ _ _ _ _)
      | (with_reducible exact ih1 _ _ _ _ _ _ _ _ _ _ _ _ _ _ _ _ _ _ _ _ _)
      | (with_reducible exact ih2 _ _ _ _ _ _ _ _ _ _ _ _ _ _ _ _ _ _ _ _)
      | (with_reducible exact ih3 _ _ _ _ _ _ _ _ _ _ _ _ _ _ _ _)
      | (with_reducible exact sizarlaw26_sane.mono _)
      | (with_reducible exact sizarref26_SameBundles.mono _ _ _)
      | (with_reducible exact waiting_Join.mono _ _ _ _ _ _ _)
      | (with_reducible exact waiting_Of.mono _ _ _)
      | (with_reducible exact waiting_Place.mono _ _ _ _ _)
      | (with_reducible exact LeO.refl _)
      | (with_reducible exact LeO.none _)
      | (with_reducible refine LeO.ite ?_ ?_)
      | (with_reducible refine LeO.bind ?_ (fun _ => ?_))
      | exact ih0 _ _ _ _ _ _ _ _ _ _
      | exact ih1 _ _ _ _ _ _ _ _ _ _ _ _ _ _ _ _ _ _ _ _ _
      | exact ih2 _ _ _ _ _ _ _ _ _ _ _ _ _ _ _ _ _ _ _ _
      | exact ih3 _ _ _ _ _ _ _ _ _ _ _ _ _ _ _ _
      | exact sizarlaw26_sane.mono _
      | exact sizarref26_SameBundles.mono _ _ _
      | exact waiting_Join.mono _ _ _ _ _ _ _
      | exact waiting_Of.mono _ _ _
      | exact waiting_Place.mono _ _ _ _ _
      | exact LeO.none _
      | refine LeO.ite ?_ ?_
      | refine LeO.bind ?_ (fun _ => ?_)
    · intro y0 y1 y2 y3 y4 y5 y6 y7 y8 y9 y10 y11 y12 y13 y14 y15 y16 y17 y18 y19
      unfold sizarlaw26_WaitingOthers.j2
      repeat' first
      | (with_reducible exact ih0 _ _ _ _ _ _ _ _ _ _)
      | (with_reducible exact ih1 _ _ _ _ _ _ _ _ _ _ _ _ _ _ _ _ _ _ _ _ _)
      | (with_reducible exact ih2 _ _ _ _ _ _ _ _ _ _ _ _ _ _ _ _ _ _ _ _)
      | (with_reducible exact ih3 _ _ _ _ _ _ _ _ _ _ _ _ _ _ _ _)
      | (with_reducible exact sizarlaw26_sane.mono _)
      | (with_reducible exact sizarref26_SameBundles.mono _ _ _)
      | (with_reducible exact waiting_Join.mono _ _ _ _ _ _ _)
      | (with_reducible exact waiting_Of.mono _ _ _)
      | (with_reducible exact waiting_Place.mono _ _ _ _ _)
      | (with_reducible exact LeO.refl _)
      | (with_reducible exact LeO.none _)
      | (with_reducible refine LeO.ite ?_ ?_)
      | (with_reducible refine LeO.bind ?_ (fun _ => ?_))
      | exact ih0 _ _ _ _ _ _ _ _ _ _
      | exact ih1 _ _ _ _ _ _ _ _ _ _ _ _ _ _ _ _ _ _ _ _ _
      | exact ih2 _ _ _ _ _ _ _ _ _ _ _ _ _ _ _ _ _ _ _ _
      | exact ih3 _ _ _ _ _ _ _ _ _ _ _ _ _ _ _ _
      | exact sizarlaw26_sane.mono _
      | exact sizarref26_SameBundles.mono _ _ _
      | exact waiting_Join.mono _ _ _ _ _ _ _
      | exact waiting_Of.mono _ _ _
      | exact waiting_Place.mono _ _ _ _ _
      | exact LeO.none _
      | refine LeO.ite ?_ ?_
      | refine LeO.bind ?_ (fun _ => ?_)
    · intro y0 y1 y2 y3 y4 y5 y6 y7 y8 y9 y10 y11 y12 y13 y14 y15
      unfold sizarlaw26_WaitingOthers.j3
      repeat' first
      | (with_reducible exact ih0 _ _ _ _ _ _ _ _ _ _)
      | (with_reducible exact ih1 _ _ _ _ _ _ _ _ _ _ _ _ _ _ _ _ _ _ _ _ _)
      | (with_reducible exact ih2 _ _ _ _ _ _ _ _ _ _ _ _ _ _ _ _ _ _ _ _)
      | (with_reducible exact ih3 _ _ _ _ _ _ _ _ _ _ _ _ _ _ _ _)
      | (with_reducible exact sizarlaw26_sane.mono _)
      | (with_reducible exact sizarref26_SameBundles.mono _ _ _)
      | (with_reducible exact waiting_Join.mono _ _ _ _ _ _ _)
      | (with_reducible exact waiting_Of.mono _ _ _)
      | (with_reducible exact waiting_Place.mono _ _ _ _ _)
      | (with_reducible exact LeO.refl _)
      | (with_reducible exact LeO.none _)
      | (with_reducible refine LeO.ite ?_ ?_)
      | (with_reducible refine LeO.bind ?_ (fun _ => ?_))
      | exact ih0 _ _ _ _ _ _ _ _ _ _
      | exact ih1 _ _ _ _ _ _ _ _ _ _ _ _ _ _ _ _ _ _ _ _ _
      | exact ih2 _ _ _ _ _ _ _ _ _ _ _ _ _ _ _ _ _ _ _ _
      | exact ih3 _ _ _ _ _ _ _ _ _ _ _ _ _ _ _ _
      | exact sizarlaw26_sane.mono _
      | exact sizarref26_SameBundles.mono _ _ _
      | exact waiting_Join.mono _ _ _ _ _ _ _
      | exact waiting_Of.mono _ _ _
      | exact waiting_Place.mono _ _ _ _ _
      | exact LeO.none _
      | refine LeO.ite ?_ ?_
      | refine LeO.bind ?_ (fun _ => ?_)
theorem sizarlaw26_WaitingOthers.mono : ∀ a0 a1 a2 a3 a4 a5 k, LeO (sizarlaw26_WaitingOthers.f k a0 a1 a2 a3 a4 a5) (sizarlaw26_WaitingOthers.f (k + 1) a0 a1 a2 a3 a4 a5) := by
 intro a0 a1 a2 a3 a4 a5 k; obtain ⟨ih0, ih1, ih2, ih3⟩ := sizarlaw26_WaitingOthers.mono_l k; unfold sizarlaw26_WaitingOthers.f
 repeat' first
     | (with_reducible exact ih0 _ _ _ _ _ _ _ _ _ _)
     | (with_reducible exact ih1 _ _ _ _ _ _ _ _ _ _ _ _ _ _ _ _ _ _ _ _ _)
     | (with_reducible exact ih2 _ _ _ _ _ _ _ _ _ _ _ _ _ _ _ _ _ _ _ _)
     | (with_reducible exact ih3 _ _ _ _ _ _ _ _ _ _ _ _ _ _ _ _)
     | (with_reducible exact sizarlaw26_sane.mono _)
     | (with_reducible exact sizarref26_SameBundles.mono _ _ _)
     | (with_reducible exact waiting_Join.mono _ _ _ _ _ _ _)
     | (with_reducible exact waiting_Of.mono _ _ _)
     | (with_reducible exact waiting_Place.mono _ _ _ _ _)
     | (with_reducible exact LeO.refl _)
     | (with_reducible exact LeO.none _)
     | (with_reducible refine LeO.ite ?_ ?_)
     | (with_reducible refine LeO.bind ?_ (fun _ => ?_))
     | exact ih0 _ _ _ _ _ _ _ _ _ _
     | exact ih1 _ _ _ _ _ _ _ _ _ _ _ _ _ _ _ _ _ _ _ _ _
     | exact ih2 _ _ _ _ _ _ _ _ _ _ _ _ _ _ _ _ _ _ _ _
     | exact ih3 _ _ _ _ _ _ _ _ _ _ _ _ _ _ _ _
     | exact sizarlaw26_sane.mono _
     | exact sizarref26_SameBundles.mono _ _ _
     | exact waiting_Join.mono _ _ _ _ _ _ _
     | exact waiting_Of.mono _ _ _
     | exact waiting_Place.mono _ _ _ _ _
     | exact LeO.none _
     | refine LeO.ite ?_ ?_
     | refine LeO.bind ?_ (fun _ => ?_)
def sizarlaw26_WaitingOthers.T18 : Bool × List (List Nat × List Nat) := (true, [([], []), ([], []), ([1], [1]), ([0, 2], [0, 2]), ([], []), ([], []), ([5], [5]), ([4, 6, 3], [4, 6]), ([3, 7, 0, 1, 2, 3], [3]), ([7, 8, 0, 1, 2, 3, 4, 5, 6, 7, 8], [7])])
def sizarlaw26_WaitingOthers.B18 : List Nat := [0, 0, 2, 7, 0, 0, 32, 127, 255, 511]
theorem sizarlaw26_WaitingOthers.tab18 : rtab .any (opsOf Try.f3 18) = sizarlaw26_WaitingOthers.T18 := by kernel_rfl
theorem sizarlaw26_WaitingOthers.bits18 : waitsOk sizarlaw26_WaitingOthers.T18.2 sizarlaw26_WaitingOthers.B18 = true := by kernel_rfl
def sizarlaw26_WaitingOthers.T22 : Bool × List (List Nat × List Nat) := (true, [([], []), ([], []), ([1], [1]), ([0, 2], [0, 2]), ([3], [3]), ([], []), ([], []), ([6], [6]), ([5, 7, 3], [5, 7]), ([8], [8]), ([9], [9]), ([4, 10], [4, 10]), ([11, 8, 0, 1, 2, 3, 4, 5, 6, 7, 8, 9, 10, 11], [11])])
def sizarlaw26_WaitingOthers.B22 : List Nat := [0, 0, 2, 7, 15, 0, 0, 64, 239, 495, 1007, 2047, 4095]
theorem sizarlaw26_WaitingOthers.tab22 : rtab .any (opsOf Try.f3 22) = sizarlaw26_WaitingOthers.T22 := by kernel_rfl
theorem sizarlaw26_WaitingOthers.bits22 : waitsOk sizarlaw26_WaitingOthers.T22.2 sizarlaw26_WaitingOthers.B22 = true := by kernel_rfl
set_option maxHeartbeats 8000000 in
set_option maxRecDepth 100000 in
theorem sizarlaw26_WaitingOthers.calls (k : Nat) (A0 : Option Addr) (c0 : Nat) (l0 : List (S26)) (a1_0 : Int) (a1_1 : Int) (a1_2 : Int) (a1_3 : Int) (a1_4 : Int) (r : Bool) (w : World) (hr0 : Kd.C k26 w A0 l0.length l0) (hc0 : l0.length ≤ c0) (h : sizarlaw26_WaitingOthers.f k l0 a1_0 a1_1 a1_2 a1_3 a1_4 = some r) :
    Calls Try.prog 3 #[.slice A0 l0.length c0, .agg #[.int .i64 a1_0, .int .i64 a1_1, .int .i64 a1_2, .int .i64 a1_3, .int .i64 a1_4]] w fun e w' => e = .returned (.bool r) ∧ Below w.heap.size w w' := by
 have hu26 := Try.underlying26; have hu24 := Try.underlying24; have HR0 := Aside0.mk hr0; have HC0 := Aside0.mk hc0; clear hr0 hc0; have HB := Aside0.mk (Below.refl w.heap.size w); have H : ((sizarlaw26_sane.f k).bind fun t471 => (if t471 = true then ((sizarref26_Few.f l0).bind fun t472 => (if t472 = true then ((waiting_Join.f k l0 a1_0 a1_1 a1_2 a1_3 a1_4).bind fun bt473 => (if bt473.2 = 0 then (sizarlaw26_WaitingOthers.l0 k l0 bt473.1 l0 (l0.length : Int) 0 a1_0 a1_1 a1_2 a1_3 a1_4) else (some ((bt473.1.length : Int) == 0)))) else (some true))) else (none))) = some r := h; clear h; replace H := Option.bind_eq_some_iff.mp H; obtain ⟨t471, A30, H⟩ := H; replace H : (if t471 = true then ((sizarref26_Few.f l0).bind fun t472 => (if t472 = true then ((waiting_Join.f k l0 a1_0 a1_1 a1_2 a1_3 a1_4).bind fun bt473 => (if bt473.2 = 0 then (sizarlaw26_WaitingOthers.l0 k l0 bt473.1 l0 (l0.length : Int) 0 a1_0 a1_1 a1_2 a1_3 a1_4) else (some ((bt473.1.length : Int) == 0)))) else (some true))) else (none)) = some r := H; have A3 := Aside0.mk A30; clear A30; by_cases c4 : t471 = true
 ·subst c4; have H1 : ((sizarref26_Few.f l0).bind fun t472 => (if t472 = true then ((waiting_Join.f k l0 a1_0 a1_1 a1_2 a1_3 a1_4).bind fun bt473 => (if bt473.2 = 0 then (sizarlaw26_WaitingOthers.l0 k l0 bt473.1 l0 (l0.length : Int) 0 a1_0 a1_1 a1_2 a1_3 a1_4) else (some ((bt473.1.length : Int) == 0)))) else (some true))) = some r := by rw [if_pos rfl] at H; exact H
  clear H; have H := H1; clear H1; replace H := Option.bind_eq_some_iff.mp H; obtain ⟨t472, A50, H⟩ := H; replace H : (if t472 = true then ((waiting_Join.f k l0 a1_0 a1_1 a1_2 a1_3 a1_4).bind fun bt473 => (if bt473.2 = 0 then (sizarlaw26_WaitingOthers.l0 k l0 bt473.1 l0 (l0.length : Int) 0 a1_0 a1_1 a1_2 a1_3 a1_4) else (some ((bt473.1.length : Int) == 0)))) else (some true)) = some r := H; have A5 := Aside0.mk A50; clear A50; by_cases c6 : t472 = true
  ·subst c6; have H1 : ((waiting_Join.f k l0 a1_0 a1_1 a1_2 a1_3 a1_4).bind fun bt473 => (if bt473.2 = 0 then (sizarlaw26_WaitingOthers.l0 k l0 bt473.1 l0 (l0.length : Int) 0 a1_0 a1_1 a1_2 a1_3 a1_4) else (some ((bt473.1.length : Int) == 0)))) = some r := by rw [if_pos rfl] at H; exact H
   clear H; have H := H1; clear H1; replace H := Option.bind_eq_some_iff.mp H; obtain ⟨⟨t473, t476⟩, A70, H⟩ := H; replace H : (if t476 = 0 then (sizarlaw26_WaitingOthers.l0 k l0 t473 l0 (l0.length : Int) 0 a1_0 a1_1 a1_2 a1_3 a1_4) else (some ((t473.length : Int) == 0))) = some r := H; have A7 := Aside0.mk A70; clear A70; by_cases c8 : t476 = 0
   ·rw [if_pos c8] at H; have c8b0 : (t476 == 0) = true := beq_iff_eq.mpr c8; have c8b1 : (t476 != 0) = false := bne_eq_false_iff_eq.mpr c8; clear c8; have H' := Aside0.mk H; clear H; go_enter Try.func3, Try.ntmps3; go_wp2_with (first | ((with_reducible refine gate_dst (N := 3) rfl ?_); refine box_event ?hg (N := 3) ?hd (cs := #[.int .i64 a1_0, .int .i64 a1_1, .int .i64 a1_2, .int .i64 a1_3, .int .i64 a1_4]) (t := 26) ?hr ?_; (case hd => rfl); (case hg => rfl); (case hr => first | (go_simp; done) | (go_simp; rfl)); intro gb470 hg w9 hbox hb; have n0_ := Aside0.mk (below_step (by repeat (first | (with_reducible first | exact HB.out | apply below_alloc | apply pw_below_drewN | apply below_drew1) | exact HB.out)) hb); have n1_ := Aside0.mk (hbox); have n2_ := Aside0.mk ((by rw [hg]; exact (below_size (by repeat (first | (with_reducible first | exact HB.out | apply below_alloc | apply pw_below_drewN | apply below_drew1) | exact HB.out))) : w.heap.size ≤ gb470)); have n3_ := Aside0.mk ((by rw [hg]; exact (below_size (by repeat (first | (with_reducible first | exact HB.out | apply below_alloc | apply pw_below_drewN | apply below_drew1) | exact HB.out))) : w.heap.size ≤ gb470)); clear HB; have HB := n0_; have BK470 := n1_; have GW470 := n2_; have GE470 := n3_; clear n0_ n1_ n2_ n3_; clear hb hbox hg) | ((with_reducible refine gate_callee (f := 10) rfl ?_); refine goesL_ (some 16) rfl rfl Try.func10 (by kernel_rfl) rfl #[] rfl (by (try simp only [List.map_toArray, List.map_cons, List.map_nil]); first | done | rfl | (simp only [List.length_drop, List.length_take]; rfl)) ?_; (with_reducible refine (sizarlaw26_sane.calls k  true _ A3.out).mono ?_); rintro e w10 ⟨rfl, hb⟩; refine ⟨_, rfl, ?_⟩; have n0_ := Aside0.mk (blk_below (g := gb470) (o := .cells #[.int .i64 a1_0, .int .i64 a1_1, .int .i64 a1_2, .int .i64 a1_3, .int .i64 a1_4] 26 (0, 0)) (by (with_reducible repeat (first | refine blk_drewN ?_ _ | refine blk_drew ?_ | refine blk_alloc ?_ _)); exact BK470.out) hb); have n1_ := Aside0.mk (below_step (by repeat (first | (with_reducible first | exact HB.out | apply below_alloc | apply pw_below_drewN | apply below_drew1 | refine below_set ?_ GE470.out) | exact HB.out)) hb); clear BK470; clear HB; have BK470 := n0_; have HB := n1_; clear n0_ n1_; (try clear hb); (try clear hb2); (try clear hk); (try clear hi)) | ((with_reducible refine gate_callee (f := 11) rfl ?_); refine goesL_ (some 19) rfl rfl Try.func11 (by kernel_rfl) rfl #[.slice A0 l0.length c0] rfl (by (try simp only [List.map_toArray, List.map_cons, List.map_nil]); first | done | rfl | (simp only [List.length_drop, List.length_take]; rfl)) ?_; (with_reducible refine (sizarref26_Few.calls _ _ l0 true _ ?side1 ?side2 A5.out).mono ?_); (case side1 => repeat (first | exact (Kd.C_below HR0.out HB.out) | (with_reducible refine Kd.C_alloc ?_ _) | (with_reducible refine Kd.C_drewN ?_ _) | (with_reducible refine Kd.C_drew ?_))); (case side2 => exact HC0.out); rintro e w' ⟨rfl, ⟨nd, rfl⟩⟩; refine ⟨_, rfl, ?_⟩; have hcz11_0 : w10.cell? ⟨gb470, 0, none⟩ = some (.int .i64 a1_0) := (blk_cell BK470.out 0).trans rfl; have hcz11_1 : w10.cell? ⟨gb470, 1, none⟩ = some (.int .i64 a1_1) := (blk_cell BK470.out 1).trans rfl; have hcz11_2 : w10.cell? ⟨gb470, 2, none⟩ = some (.int .i64 a1_2) := (blk_cell BK470.out 2).trans rfl; have hcz11_3 : w10.cell? ⟨gb470, 3, none⟩ = some (.int .i64 a1_3) := (blk_cell BK470.out 3).trans rfl; have hcz11_4 : w10.cell? ⟨gb470, 4, none⟩ = some (.int .i64 a1_4) := (blk_cell BK470.out 4).trans rfl; have hfz11_0 := blk_frozen BK470.out 0; have hfz11_1 := blk_frozen BK470.out 1; have hfz11_2 := blk_frozen BK470.out 2; have hfz11_3 := blk_frozen BK470.out 3; have hfz11_4 := blk_frozen BK470.out 4) | ((with_reducible refine gate_callee (f := 12) rfl ?_); refine goesL_ (some 24) rfl rfl Try.func12 (by kernel_rfl) rfl #[.slice A0 l0.length c0, .agg #[.int .i64 a1_0, .int .i64 a1_1, .int .i64 a1_2, .int .i64 a1_3, .int .i64 a1_4]] rfl (by (try simp only [List.map_toArray, List.map_cons, List.map_nil]); first | done | rfl | (simp only [List.length_drop, List.length_take]; rfl)) ?_; (with_reducible refine (waiting_Join.calls k _ _ l0 a1_0 a1_1 a1_2 a1_3 a1_4 t473 t476 _ ?side1 ?side2 A7.out).mono ?_); (case side1 => repeat (first | exact (Kd.C_below HR0.out (by repeat (first | (with_reducible first | exact HB.out | apply below_alloc | apply pw_below_drewN | apply below_drew1 | refine below_set ?_ GE470.out) | exact HB.out))) | (with_reducible refine Kd.C_alloc ?_ _) | (with_reducible refine Kd.C_drewN ?_ _) | (with_reducible refine Kd.C_drew ?_))); (case side2 => exact HC0.out); rintro e w12 ⟨v474, rfl, ho0, hb⟩; refine ⟨_, rfl, ?_⟩; have n0_ := Aside0.mk (Kd.R_lower (Kd.R_newB ho0 (g := gb470) (o := .cells #[.int .i64 a1_0, .int .i64 a1_1, .int .i64 a1_2, .int .i64 a1_3, .int .i64 a1_4] 26 (0, 0)) (by (with_reducible repeat (first | refine blk_drewN ?_ _ | refine blk_drew ?_ | refine blk_alloc ?_ _)); exact BK470.out)) (below_size (by repeat (first | (with_reducible first | exact HB.out | apply below_alloc | apply pw_below_drewN | apply below_drew1 | refine below_set ?_ GE470.out) | exact HB.out)))); have n1_ := Aside0.mk (blk_below (g := gb470) (o := .cells #[.int .i64 a1_0, .int .i64 a1_1, .int .i64 a1_2, .int .i64 a1_3, .int .i64 a1_4] 26 (0, 0)) (by (with_reducible repeat (first | refine blk_drewN ?_ _ | refine blk_drew ?_ | refine blk_alloc ?_ _)); exact BK470.out) hb); have n2_ := Aside0.mk (below_step (by repeat (first | (with_reducible first | exact HB.out | apply below_alloc | apply pw_below_drewN | apply below_drew1 | refine below_set ?_ GE470.out) | exact HB.out)) hb); clear BK470; clear HB; have HO475 := n0_; have BK470 := n1_; have HB := n2_; clear n0_ n1_ n2_; (try clear hb); (try clear hb2); (try clear hk); (try clear hi); (try clear ho0)))
    go_loopg [34] k (fun kq v34 w' => ∃ (x34_1 : Int), v34 = .int .i64 x34_1 ∧ Aside0 (sizarlaw26_WaitingOthers.l0 kq l0 t473 l0 (l0.length : Int) x34_1 a1_0 a1_1 a1_2 a1_3 a1_4 = some r) ∧ Aside0 (kq ≤ k) ∧ Aside0 (Kd.R k26 26 w' w.heap.size (fun k_ => k_ ≠ gb470) v474 t473) ∧ Aside0 (w'.heap[gb470]? = some (.cells #[.int .i64 a1_0, .int .i64 a1_1, .int .i64 a1_2, .int .i64 a1_3, .int .i64 a1_4] 26 (0, 0))) ∧ Aside0 (Below w.heap.size w w'))
    case atStart => exact ⟨(0), (by first | rfl | (simp; done) | (simp [*]; done)), H', ⟨Nat.le_refl _⟩, ⟨by (with_reducible repeat (first | apply Kd.R_alloc | apply Kd.R_drewN | apply Kd.R_drew)); exact Kd.R_mono HO475.out (fun _ hk => hk.2)⟩, ⟨by (with_reducible repeat (first | refine blk_drewN ?_ _ | refine blk_drew ?_ | refine blk_alloc ?_ _)); exact BK470.out⟩, ⟨by repeat (first | (with_reducible first | exact HB.out | apply below_alloc | apply pw_below_drewN | apply below_drew1 | refine below_set ?_ GE470.out) | exact HB.out)⟩⟩
    case round =>
     clear H'
     try clear c1
     try clear p2
     try clear c3
     try clear c4
     try clear c6
     try clear c8
     try clear c8b0
     try clear c8b1
     try clear c10
     try clear c11
     try clear c12
     try clear hcz11_0
     try clear hcz11_1
     try clear hcz11_2
     try clear hcz11_3
     try clear hcz11_4
     try clear hfz11_0
     try clear hfz11_1
     try clear hfz11_2
     try clear hfz11_3
     try clear hfz11_4
     obtain ⟨x34_1, rfl, HA, HK1, HO_5, BK470, HB⟩ := hrel; cases gk with
     | zero => exact absurd HA.out (by simp [sizarlaw26_WaitingOthers.l0])
     | succ k1 =>
      have H := HA.out; clear HA; simp only [sizarlaw26_WaitingOthers.l0] at H; by_cases c13 : x34_1 < (l0.length : Int)
      ·rw [if_pos c13] at H; have c13b0 : decide (x34_1 < (l0.length : Int)) = true := decide_eq_true c13; clear c13; by_cases c14 : 0 ≤ x34_1
       ·rw [if_pos c14] at H; have c14b0 : decide (0 ≤ x34_1) = true := decide_eq_true c14; clear c14; by_cases c15 : x34_1 < (l0.length : Int)
        ·rw [if_pos c15] at H; have c15b0 : decide (x34_1 < (l0.length : Int)) = true := decide_eq_true c15; clear c15; replace H := Option.bind_eq_some_iff.mp H; obtain ⟨⟨t485, t486⟩, A160, H⟩ := H; replace H : ((waiting_Place.f k1 t473 ((rd_T26 l0 x34_1).f0) ((rd_T26 l0 x34_1).f1.f0) ((rd_T26 l0 x34_1).f1.f1)).bind fun bt487 => (if (((rd_T26 l0 x34_1).f1.f0) == a1_1 && (((rd_T26 l0 x34_1).f1.f1) == a1_2)) = true then ((sizarlaw26_less.f a1_0 a1_1 a1_2 a1_3 a1_4 ((rd_T26 l0 x34_1).f0) ((rd_T26 l0 x34_1).f1.f0) ((rd_T26 l0 x34_1).f1.f1) ((rd_T26 l0 x34_1).f2) ((rd_T26 l0 x34_1).f3)).bind fun t489 => (sizarlaw26_WaitingOthers.j1 k1 l0 t473 t485 t486 bt487.1 bt487.2 0 l0 (l0.length : Int) x34_1 t489 a1_0 a1_1 a1_2 a1_3 a1_4 ((rd_T26 l0 x34_1).f0) ((rd_T26 l0 x34_1).f1.f0) ((rd_T26 l0 x34_1).f1.f1) ((rd_T26 l0 x34_1).f2) ((rd_T26 l0 x34_1).f3))) else (sizarlaw26_WaitingOthers.j1 k1 l0 t473 t485 t486 bt487.1 bt487.2 0 l0 (l0.length : Int) x34_1 false a1_0 a1_1 a1_2 a1_3 a1_4 ((rd_T26 l0 x34_1).f0) ((rd_T26 l0 x34_1).f1.f0) ((rd_T26 l0 x34_1).f1.f1) ((rd_T26 l0 x34_1).f2) ((rd_T26 l0 x34_1).f3)))) = some r := H; have A16 := Aside0.mk A160; clear A160; replace H := Option.bind_eq_some_iff.mp H; obtain ⟨⟨t487, t488⟩, A170, H⟩ := H; replace H : (if (((rd_T26 l0 x34_1).f1.f0) == a1_1 && (((rd_T26 l0 x34_1).f1.f1) == a1_2)) = true then ((sizarlaw26_less.f a1_0 a1_1 a1_2 a1_3 a1_4 ((rd_T26 l0 x34_1).f0) ((rd_T26 l0 x34_1).f1.f0) ((rd_T26 l0 x34_1).f1.f1) ((rd_T26 l0 x34_1).f2) ((rd_T26 l0 x34_1).f3)).bind fun t489 => (sizarlaw26_WaitingOthers.j1 k1 l0 t473 t485 t486 t487 t488 0 l0 (l0.length : Int) x34_1 t489 a1_0 a1_1 a1_2 a1_3 a1_4 ((rd_T26 l0 x34_1).f0) ((rd_T26 l0 x34_1).f1.f0) ((rd_T26 l0 x34_1).f1.f1) ((rd_T26 l0 x34_1).f2) ((rd_T26 l0 x34_1).f3))) else (sizarlaw26_WaitingOthers.j1 k1 l0 t473 t485 t486 t487 t488 0 l0 (l0.length : Int) x34_1 false a1_0 a1_1 a1_2 a1_3 a1_4 ((rd_T26 l0 x34_1).f0) ((rd_T26 l0 x34_1).f1.f0) ((rd_T26 l0 x34_1).f1.f1) ((rd_T26 l0 x34_1).f2) ((rd_T26 l0 x34_1).f3))) = some r := H; have A17 := Aside0.mk A170; clear A170; have HC18 := Aside0.mk H; clear H; have p483 : 0 ≤ (x34_1 : Int) := of_decide_eq_true (by first | (with_reducible assumption) | assumption); have q483 : x34_1 < (l0.length : Int) := of_decide_eq_true (by first | (with_reducible assumption) | assumption); obtain ⟨ad483, e483, hx483_0, hx483_1, hx483_2, hx483_3, hx483_4⟩ := at_T26 HR0.out x34_1 p483 q483; cases e483; replace hx483_0 := (HB.out.cell (World.block_lt_of_cell? w _ hx483_0)).trans hx483_0; replace hx483_1 := (HB.out.cell (World.block_lt_of_cell? w _ hx483_1)).trans hx483_1; replace hx483_2 := (HB.out.cell (World.block_lt_of_cell? w _ hx483_2)).trans hx483_2; replace hx483_3 := (HB.out.cell (World.block_lt_of_cell? w _ hx483_3)).trans hx483_3; replace hx483_4 := (HB.out.cell (World.block_lt_of_cell? w _ hx483_4)).trans hx483_4; replace p483 := eq_true p483; replace q483 := eq_true q483; go_upto_region 14 with (first | ((with_reducible refine gate_dst (N := 8) rfl ?_); refine box_event ?hg (N := 8) ?hd (cs := #[.int .i64 0, .int .i64 0, .int .i64 0, .int .i64 0, .int .i64 0]) (t := 26) ?hr ?_; (case hd => rfl); (case hg => rfl); (case hr => first | (go_simp; done) | (go_simp; rfl)); intro gb484 hg w19 hbox hb; have n0_ := Aside0.mk (Kd.R_below (Kd.R_elderB (by (with_reducible repeat (first | apply Kd.R_alloc | apply Kd.R_drewN | apply Kd.R_drew)); exact HO_5.out) gb484 (Nat.le_of_eq hg.symm)) hb); have n1_ := Aside0.mk (blk_below (g := gb470) (o := .cells #[.int .i64 a1_0, .int .i64 a1_1, .int .i64 a1_2, .int .i64 a1_3, .int .i64 a1_4] 26 (0, 0)) (by (with_reducible repeat (first | refine blk_drewN ?_ _ | refine blk_drew ?_ | refine blk_alloc ?_ _)); exact BK470.out) hb); have n2_ := Aside0.mk (below_step (by repeat (first | (with_reducible first | exact HB.out | apply below_alloc | apply pw_below_drewN | apply below_drew1 | refine below_set ?_ GE470.out) | exact HB.out)) hb); have n3_ := Aside0.mk (hbox); have n4_ := Aside0.mk ((by rw [hg]; exact (below_size (by repeat (first | (with_reducible first | exact HB.out | apply below_alloc | apply pw_below_drewN | apply below_drew1 | refine below_set ?_ GE470.out) | exact HB.out))) : w.heap.size ≤ gb484)); have n5_ := Aside0.mk ((by rw [hg]; exact (below_size (by repeat (first | (with_reducible first | exact HB.out | apply below_alloc | apply pw_below_drewN | apply below_drew1 | refine below_set ?_ GE470.out) | exact HB.out))) : w.heap.size ≤ gb484)); have n6_ := Aside0.mk ((by rw [hg]; exact Nat.ne_of_lt (blk_lt (g := gb470) (o := .cells #[.int .i64 a1_0, .int .i64 a1_1, .int .i64 a1_2, .int .i64 a1_3, .int .i64 a1_4] 26 (0, 0)) (by (with_reducible repeat (first | refine blk_drewN ?_ _ | refine blk_drew ?_ | refine blk_alloc ?_ _)); exact BK470.out)) : gb470 ≠ gb484)); have n7_ := Aside0.mk ((by rw [hg]; exact Nat.ne_of_gt (blk_lt (g := gb470) (o := .cells #[.int .i64 a1_0, .int .i64 a1_1, .int .i64 a1_2, .int .i64 a1_3, .int .i64 a1_4] 26 (0, 0)) (by (with_reducible repeat (first | refine blk_drewN ?_ _ | refine blk_drew ?_ | refine blk_alloc ?_ _)); exact BK470.out)) : gb484 ≠ gb470)); clear HO_5; clear BK470; clear HB; have HO_5 := n0_; have BK470 := n1_; have HB := n2_; have BK484 := n3_; have GW484 := n4_; have GE484 := n5_; have NB470_484 := n6_; have NB484_470 := n7_; clear n0_ n1_ n2_ n3_ n4_ n5_ n6_ n7_; clear hb hbox hg; have hnb20 := NB484_470.out; have hnc20 := NB470_484.out; have hcz21_0 : w19.cell? ⟨gb484, 0, none⟩ = some (.int .i64 0) := (blk_cell BK484.out 0).trans rfl; have hcz21_1 : w19.cell? ⟨gb484, 1, none⟩ = some (.int .i64 0) := (blk_cell BK484.out 1).trans rfl; have hcz21_2 : w19.cell? ⟨gb484, 2, none⟩ = some (.int .i64 0) := (blk_cell BK484.out 2).trans rfl; have hcz21_3 : w19.cell? ⟨gb484, 3, none⟩ = some (.int .i64 0) := (blk_cell BK484.out 3).trans rfl; have hcz21_4 : w19.cell? ⟨gb484, 4, none⟩ = some (.int .i64 0) := (blk_cell BK484.out 4).trans rfl; have hfz21_0 := blk_frozen BK484.out 0; have hfz21_1 := blk_frozen BK484.out 1; have hfz21_2 := blk_frozen BK484.out 2; have hfz21_3 := blk_frozen BK484.out 3; have hfz21_4 := blk_frozen BK484.out 4) | ((with_reducible refine gate_callee (f := 13) rfl ?_); refine goesL_ (some 44) rfl rfl Try.func13 (by kernel_rfl) rfl #[.slice (some ad483) l0.length c0, .int .i64 ((rd_T26 l0 x34_1).f0), .agg #[.int .i64 ((rd_T26 l0 x34_1).f1.f0), .int .i64 ((rd_T26 l0 x34_1).f1.f1)]] rfl (by (try simp only [List.map_toArray, List.map_cons, List.map_nil]); first | done | rfl | (simp only [List.length_drop, List.length_take]; rfl)) ?_; (with_reducible refine (waiting_Place.calls k1 _ _ l0 ((rd_T26 l0 x34_1).f0) ((rd_T26 l0 x34_1).f1.f0) ((rd_T26 l0 x34_1).f1.f1) t485 t486 _ ?side1 ?side2 A16.out).mono ?_); (case side1 => exact Kd.C_below HR0.out (by repeat (first | (with_reducible first | exact HB.out | apply below_alloc | apply pw_below_drewN | apply below_drew1 | refine below_set ?_ GE470.out | refine below_set ?_ GE484.out) | exact HB.out))); (case side2 => exact HC0.out); rintro e w22 ⟨rfl, hb⟩; refine ⟨_, rfl, ?_⟩; have n0_ := Aside0.mk (Kd.R_below (by (with_reducible repeat (first | apply Kd.R_alloc | apply Kd.R_drewN | apply Kd.R_drew)); exact (Kd.R_mono (Kd.R_far (p := ⟨gb484, 4, none⟩) (Kd.R_far (p := ⟨gb484, 3, none⟩) (Kd.R_far (p := ⟨gb484, 2, none⟩) (Kd.R_far (p := ⟨gb484, 1, none⟩) (Kd.R_far (p := ⟨gb484, 0, none⟩) (Kd.R_mono HO_5.out (fun k_ hk => (⟨hk, hk.2⟩ : _ ∧ k_ ≠ gb484))) (fun _ hk => hk.2) (.int .i64 ((rd_T26 l0 x34_1).f0))) (fun _ hk => hk.2) (.int .i64 ((rd_T26 l0 x34_1).f1.f0))) (fun _ hk => hk.2) (.int .i64 ((rd_T26 l0 x34_1).f1.f1))) (fun _ hk => hk.2) (.int .i64 ((rd_T26 l0 x34_1).f2))) (fun _ hk => hk.2) (.int .i64 ((rd_T26 l0 x34_1).f3))) (fun _ h_ => h_.1))) hb); have n1_ := Aside0.mk (blk_below (g := gb470) (o := .cells #[.int .i64 a1_0, .int .i64 a1_1, .int .i64 a1_2, .int .i64 a1_3, .int .i64 a1_4] 26 (0, 0)) (by (with_reducible repeat (first | refine blk_drewN ?_ _ | refine blk_drew ?_ | refine blk_alloc ?_ _)); refine blk_far ?_ NB470_484.out _; (with_reducible repeat (first | refine blk_drewN ?_ _ | refine blk_drew ?_ | refine blk_alloc ?_ _)); refine blk_far ?_ NB470_484.out _; (with_reducible repeat (first | refine blk_drewN ?_ _ | refine blk_drew ?_ | refine blk_alloc ?_ _)); refine blk_far ?_ NB470_484.out _; (with_reducible repeat (first | refine blk_drewN ?_ _ | refine blk_drew ?_ | refine blk_alloc ?_ _)); refine blk_far ?_ NB470_484.out _; (with_reducible repeat (first | refine blk_drewN ?_ _ | refine blk_drew ?_ | refine blk_alloc ?_ _)); refine blk_far ?_ NB470_484.out _; (with_reducible repeat (first | refine blk_drewN ?_ _ | refine blk_drew ?_ | refine blk_alloc ?_ _)); exact BK470.out) hb); have n2_ := Aside0.mk (blk_below (g := gb484) (o := .cells #[.int .i64 ((rd_T26 l0 x34_1).f0), .int .i64 ((rd_T26 l0 x34_1).f1.f0), .int .i64 ((rd_T26 l0 x34_1).f1.f1), .int .i64 ((rd_T26 l0 x34_1).f2), .int .i64 ((rd_T26 l0 x34_1).f3)] 26 (0, 0)) (by (with_reducible repeat (first | refine blk_drewN ?_ _ | refine blk_drew ?_ | refine blk_alloc ?_ _)); refine blk_put (cs := #[.int .i64 ((rd_T26 l0 x34_1).f0), .int .i64 ((rd_T26 l0 x34_1).f1.f0), .int .i64 ((rd_T26 l0 x34_1).f1.f1), .int .i64 ((rd_T26 l0 x34_1).f2), .int .i64 0]) ?_ 4 _ rfl; (with_reducible repeat (first | refine blk_drewN ?_ _ | refine blk_drew ?_ | refine blk_alloc ?_ _)); refine blk_put (cs := #[.int .i64 ((rd_T26 l0 x34_1).f0), .int .i64 ((rd_T26 l0 x34_1).f1.f0), .int .i64 ((rd_T26 l0 x34_1).f1.f1), .int .i64 0, .int .i64 0]) ?_ 3 _ rfl; (with_reducible repeat (first | refine blk_drewN ?_ _ | refine blk_drew ?_ | refine blk_alloc ?_ _)); refine blk_put (cs := #[.int .i64 ((rd_T26 l0 x34_1).f0), .int .i64 ((rd_T26 l0 x34_1).f1.f0), .int .i64 0, .int .i64 0, .int .i64 0]) ?_ 2 _ rfl; (with_reducible repeat (first | refine blk_drewN ?_ _ | refine blk_drew ?_ | refine blk_alloc ?_ _)); refine blk_put (cs := #[.int .i64 ((rd_T26 l0 x34_1).f0), .int .i64 0, .int .i64 0, .int .i64 0, .int .i64 0]) ?_ 1 _ rfl; (with_reducible repeat (first | refine blk_drewN ?_ _ | refine blk_drew ?_ | refine blk_alloc ?_ _)); refine blk_put (cs := #[.int .i64 0, .int .i64 0, .int .i64 0, .int .i64 0, .int .i64 0]) ?_ 0 _ rfl; (with_reducible repeat (first | refine blk_drewN ?_ _ | refine blk_drew ?_ | refine blk_alloc ?_ _)); exact BK484.out) hb); have n3_ := Aside0.mk (below_step (by repeat (first | (with_reducible first | exact HB.out | apply below_alloc | apply pw_below_drewN | apply below_drew1 | refine below_set ?_ GE470.out | refine below_set ?_ GE484.out) | exact HB.out)) hb); clear HO_5; clear BK470; clear BK484; clear HB; have HO_5 := n0_; have BK470 := n1_; have BK484 := n2_; have HB := n3_; clear n0_ n1_ n2_ n3_; (try clear hb); (try clear hb2); (try clear hk); (try clear hi); have hcz23_0 : w22.cell? ⟨gb484, 0, none⟩ = some (.int .i64 ((rd_T26 l0 x34_1).f0)) := (blk_cell BK484.out 0).trans rfl; have hcz23_1 : w22.cell? ⟨gb484, 1, none⟩ = some (.int .i64 ((rd_T26 l0 x34_1).f1.f0)) := (blk_cell BK484.out 1).trans rfl; have hcz23_2 : w22.cell? ⟨gb484, 2, none⟩ = some (.int .i64 ((rd_T26 l0 x34_1).f1.f1)) := (blk_cell BK484.out 2).trans rfl; have hcz23_3 : w22.cell? ⟨gb484, 3, none⟩ = some (.int .i64 ((rd_T26 l0 x34_1).f2)) := (blk_cell BK484.out 3).trans rfl; have hcz23_4 : w22.cell? ⟨gb484, 4, none⟩ = some (.int .i64 ((rd_T26 l0 x34_1).f3)) := (blk_cell BK484.out 4).trans rfl; have hfz23_0 := blk_frozen BK484.out 0; have hfz23_1 := blk_frozen BK484.out 1; have hfz23_2 := blk_frozen BK484.out 2; have hfz23_3 := blk_frozen BK484.out 3; have hfz23_4 := blk_frozen BK484.out 4; obtain ⟨Ao24, co24, eo24⟩ := Kd.R_slice HO_5.out; subst eo24) | ((with_reducible refine gate_callee (f := 13) rfl ?_); refine goesL_ (some 53) rfl rfl Try.func13 (by kernel_rfl) rfl #[.slice Ao24 t473.length co24, .int .i64 ((rd_T26 l0 x34_1).f0), .agg #[.int .i64 ((rd_T26 l0 x34_1).f1.f0), .int .i64 ((rd_T26 l0 x34_1).f1.f1)]] rfl (by (try simp only [List.map_toArray, List.map_cons, List.map_nil]); first | done | rfl | (simp only [List.length_drop, List.length_take]; rfl)) ?_; (with_reducible refine (waiting_Place.calls k1 _ _ t473 ((rd_T26 l0 x34_1).f0) ((rd_T26 l0 x34_1).f1.f0) ((rd_T26 l0 x34_1).f1.f1) t487 t488 _ ?side1 ?side2 A17.out).mono ?_); (case side1 => repeat (first | exact (Kd.R_reads' HO_5.out).2.2 | (with_reducible refine Kd.C_alloc ?_ _) | (with_reducible refine Kd.C_drewN ?_ _) | (with_reducible refine Kd.C_drew ?_))); (case side2 => exact (Kd.R_reads' HO_5.out).2.1); rintro e w25 ⟨rfl, hb⟩; refine ⟨_, rfl, ?_⟩; have n0_ := Aside0.mk (Kd.R_below (by (with_reducible repeat (first | apply Kd.R_alloc | apply Kd.R_drewN | apply Kd.R_drew)); exact HO_5.out) hb); have n1_ := Aside0.mk (blk_below (g := gb470) (o := .cells #[.int .i64 a1_0, .int .i64 a1_1, .int .i64 a1_2, .int .i64 a1_3, .int .i64 a1_4] 26 (0, 0)) (by (with_reducible repeat (first | refine blk_drewN ?_ _ | refine blk_drew ?_ | refine blk_alloc ?_ _)); exact BK470.out) hb); have n2_ := Aside0.mk (blk_below (g := gb484) (o := .cells #[.int .i64 ((rd_T26 l0 x34_1).f0), .int .i64 ((rd_T26 l0 x34_1).f1.f0), .int .i64 ((rd_T26 l0 x34_1).f1.f1), .int .i64 ((rd_T26 l0 x34_1).f2), .int .i64 ((rd_T26 l0 x34_1).f3)] 26 (0, 0)) (by (with_reducible repeat (first | refine blk_drewN ?_ _ | refine blk_drew ?_ | refine blk_alloc ?_ _)); exact BK484.out) hb); have n3_ := Aside0.mk (below_step (by repeat (first | (with_reducible first | exact HB.out | apply below_alloc | apply pw_below_drewN | apply below_drew1 | refine below_set ?_ GE470.out | refine below_set ?_ GE484.out) | exact HB.out)) hb); clear HO_5; clear BK470; clear BK484; clear HB; have HO_5 := n0_; have BK470 := n1_; have BK484 := n2_; have HB := n3_; clear n0_ n1_ n2_ n3_; (try clear hb); (try clear hb2); (try clear hk); (try clear hi)))
         (try simp only [Act.put, sqA, sqB, sqC])
         go_cut [65] (fun v65 wc => ∃ (kq : Nat) (x65_17 : Bool), v65 = .bool x65_17 ∧ Aside0 (sizarlaw26_WaitingOthers.j1 kq l0 t473 t485 t486 t487 t488 0 l0 (l0.length : Int) x34_1 x65_17 a1_0 a1_1 a1_2 a1_3 a1_4 ((rd_T26 l0 x34_1).f0) ((rd_T26 l0 x34_1).f1.f0) ((rd_T26 l0 x34_1).f1.f1) ((rd_T26 l0 x34_1).f2) ((rd_T26 l0 x34_1).f3) = some r) ∧ Aside0 (kq ≤ k1) ∧ Aside0 (Kd.R k26 26 wc w.heap.size (fun k_ => k_ ≠ gb470 ∧ k_ ≠ gb484) (.slice Ao24 t473.length co24) t473) ∧ Aside0 (wc.heap[gb470]? = some (.cells #[.int .i64 a1_0, .int .i64 a1_1, .int .i64 a1_2, .int .i64 a1_3, .int .i64 a1_4] 26 (0, 0))) ∧ Aside0 (wc.heap[gb484]? = some (.cells #[.int .i64 ((rd_T26 l0 x34_1).f0), .int .i64 ((rd_T26 l0 x34_1).f1.f0), .int .i64 ((rd_T26 l0 x34_1).f1.f1), .int .i64 ((rd_T26 l0 x34_1).f2), .int .i64 ((rd_T26 l0 x34_1).f3)] 26 (0, 0))) ∧ Aside0 (Below w.heap.size w wc))
         case first =>
          have H := HC18.out; clear HC18; by_cases c26 : (((rd_T26 l0 x34_1).f1.f0) == a1_1 && (((rd_T26 l0 x34_1).f1.f1) == a1_2)) = true
          ·rw [if_pos c26] at H; have c26b0 : (((rd_T26 l0 x34_1).f1.f0) == a1_1 && (((rd_T26 l0 x34_1).f1.f1) == a1_2)) = true := c26; (try (have c26b1 : decide (((rd_T26 l0 x34_1).f1.f0) = a1_1 && (((rd_T26 l0 x34_1).f1.f1) == a1_2)) = true := by simpa using c26))
           (try (have c26b2 : (((rd_T26 l0 x34_1).f1.f0) == a1_1 && (((rd_T26 l0 x34_1).f1.f1) == a1_2)) = true := by simpa using c26))
           clear c26; (first | rw [c26b0] | rw [c26b1] | (simp only [i64_w, i32_w]; rw [c26b0]) | skip)
           replace H := Option.bind_eq_some_iff.mp H; obtain ⟨t489, A270, H⟩ := H; replace H : (sizarlaw26_WaitingOthers.j1 k1 l0 t473 t485 t486 t487 t488 0 l0 (l0.length : Int) x34_1 t489 a1_0 a1_1 a1_2 a1_3 a1_4 ((rd_T26 l0 x34_1).f0) ((rd_T26 l0 x34_1).f1.f0) ((rd_T26 l0 x34_1).f1.f1) ((rd_T26 l0 x34_1).f2) ((rd_T26 l0 x34_1).f3)) = some r := H; have A27 := Aside0.mk A270; clear A270; have H' := Aside0.mk H; clear H; have hnb28 := NB484_470.out; have hnc28 := NB470_484.out; have hcz29_0 : w25.cell? ⟨gb484, 0, none⟩ = some (.int .i64 ((rd_T26 l0 x34_1).f0)) := (blk_cell BK484.out 0).trans rfl; have hcz29_1 : w25.cell? ⟨gb484, 1, none⟩ = some (.int .i64 ((rd_T26 l0 x34_1).f1.f0)) := (blk_cell BK484.out 1).trans rfl; have hcz29_2 : w25.cell? ⟨gb484, 2, none⟩ = some (.int .i64 ((rd_T26 l0 x34_1).f1.f1)) := (blk_cell BK484.out 2).trans rfl; have hcz29_3 : w25.cell? ⟨gb484, 3, none⟩ = some (.int .i64 ((rd_T26 l0 x34_1).f2)) := (blk_cell BK484.out 3).trans rfl; have hcz29_4 : w25.cell? ⟨gb484, 4, none⟩ = some (.int .i64 ((rd_T26 l0 x34_1).f3)) := (blk_cell BK484.out 4).trans rfl; have hfz29_0 := blk_frozen BK484.out 0; have hfz29_1 := blk_frozen BK484.out 1; have hfz29_2 := blk_frozen BK484.out 2; have hfz29_3 := blk_frozen BK484.out 3; have hfz29_4 := blk_frozen BK484.out 4; have hcz30_0 : w25.cell? ⟨gb470, 0, none⟩ = some (.int .i64 a1_0) := (blk_cell BK470.out 0).trans rfl; have hcz30_1 : w25.cell? ⟨gb470, 1, none⟩ = some (.int .i64 a1_1) := (blk_cell BK470.out 1).trans rfl; have hcz30_2 : w25.cell? ⟨gb470, 2, none⟩ = some (.int .i64 a1_2) := (blk_cell BK470.out 2).trans rfl; have hcz30_3 : w25.cell? ⟨gb470, 3, none⟩ = some (.int .i64 a1_3) := (blk_cell BK470.out 3).trans rfl; have hcz30_4 : w25.cell? ⟨gb470, 4, none⟩ = some (.int .i64 a1_4) := (blk_cell BK470.out 4).trans rfl; have hfz30_0 := blk_frozen BK470.out 0; have hfz30_1 := blk_frozen BK470.out 1; have hfz30_2 := blk_frozen BK470.out 2; have hfz30_3 := blk_frozen BK470.out 3; have hfz30_4 := blk_frozen BK470.out 4; go_wp2_with (first | (go_at_call 14; (with_reducible refine (sizarlaw26_less.calls a1_0 a1_1 a1_2 a1_3 a1_4 ((rd_T26 l0 x34_1).f0) ((rd_T26 l0 x34_1).f1.f0) ((rd_T26 l0 x34_1).f1.f1) ((rd_T26 l0 x34_1).f2) ((rd_T26 l0 x34_1).f3) t489 _ A27.out).mono ?_); rintro e w31 ⟨rfl, hb⟩; have n0_ := Aside0.mk (Kd.R_below (by (with_reducible repeat (first | apply Kd.R_alloc | apply Kd.R_drewN | apply Kd.R_drew)); exact HO_5.out) hb); have n1_ := Aside0.mk (blk_below (g := gb470) (o := .cells #[.int .i64 a1_0, .int .i64 a1_1, .int .i64 a1_2, .int .i64 a1_3, .int .i64 a1_4] 26 (0, 0)) (by (with_reducible repeat (first | refine blk_drewN ?_ _ | refine blk_drew ?_ | refine blk_alloc ?_ _)); exact BK470.out) hb); have n2_ := Aside0.mk (blk_below (g := gb484) (o := .cells #[.int .i64 ((rd_T26 l0 x34_1).f0), .int .i64 ((rd_T26 l0 x34_1).f1.f0), .int .i64 ((rd_T26 l0 x34_1).f1.f1), .int .i64 ((rd_T26 l0 x34_1).f2), .int .i64 ((rd_T26 l0 x34_1).f3)] 26 (0, 0)) (by (with_reducible repeat (first | refine blk_drewN ?_ _ | refine blk_drew ?_ | refine blk_alloc ?_ _)); exact BK484.out) hb); have n3_ := Aside0.mk (below_step (by repeat (first | (with_reducible first | exact HB.out | apply below_alloc | apply pw_below_drewN | apply below_drew1 | refine below_set ?_ GE470.out | refine below_set ?_ GE484.out) | exact HB.out)) hb); clear HO_5; clear BK470; clear BK484; clear HB; have HO_5 := n0_; have BK470 := n1_; have BK484 := n2_; have HB := n3_; clear n0_ n1_ n2_ n3_; (try clear hb); (try clear hb2); (try clear hk); (try clear hi)))
           go_meet
           case rel => exact ⟨_, (t489), (by first | rfl | (simp; done) | (simp [*]; done)), H', ⟨by have := HK1.out; first | omega | exact Nat.le_refl _⟩, ⟨by (with_reducible repeat (first | apply Kd.R_alloc | apply Kd.R_drewN | apply Kd.R_drew)); exact HO_5.out⟩, ⟨by (with_reducible repeat (first | refine blk_drewN ?_ _ | refine blk_drew ?_ | refine blk_alloc ?_ _)); exact BK470.out⟩, ⟨by (with_reducible repeat (first | refine blk_drewN ?_ _ | refine blk_drew ?_ | refine blk_alloc ?_ _)); exact BK484.out⟩, ⟨by repeat (first | (with_reducible first | exact HB.out | apply below_alloc | apply pw_below_drewN | apply below_drew1 | refine below_set ?_ GE470.out | refine below_set ?_ GE484.out) | exact HB.out)⟩⟩
          ·rw [if_neg c26] at H; have c26b0 : (((rd_T26 l0 x34_1).f1.f0) == a1_1 && (((rd_T26 l0 x34_1).f1.f1) == a1_2)) = false := by simpa using c26
           (try (have c26b1 : decide (((rd_T26 l0 x34_1).f1.f0) = a1_1 && (((rd_T26 l0 x34_1).f1.f1) == a1_2)) = false := by simpa using c26))
           (try (have c26b2 : (((rd_T26 l0 x34_1).f1.f0) == a1_1 && (((rd_T26 l0 x34_1).f1.f1) == a1_2)) = false := by simpa using c26))
           (try (have c26b3 : ¬ (((rd_T26 l0 x34_1).f1.f0) = a1_1 && (((rd_T26 l0 x34_1).f1.f1) == a1_2)) := by simpa using c26))
           clear c26; (first | rw [c26b0] | rw [c26b1] | (simp only [i64_w, i32_w]; rw [c26b0]) | skip)
           have H' := Aside0.mk H; clear H; have hnb32 := NB484_470.out; have hnc32 := NB470_484.out; have hcz33_0 : w25.cell? ⟨gb484, 0, none⟩ = some (.int .i64 ((rd_T26 l0 x34_1).f0)) := (blk_cell BK484.out 0).trans rfl; have hcz33_1 : w25.cell? ⟨gb484, 1, none⟩ = some (.int .i64 ((rd_T26 l0 x34_1).f1.f0)) := (blk_cell BK484.out 1).trans rfl; have hcz33_2 : w25.cell? ⟨gb484, 2, none⟩ = some (.int .i64 ((rd_T26 l0 x34_1).f1.f1)) := (blk_cell BK484.out 2).trans rfl; have hcz33_3 : w25.cell? ⟨gb484, 3, none⟩ = some (.int .i64 ((rd_T26 l0 x34_1).f2)) := (blk_cell BK484.out 3).trans rfl; have hcz33_4 : w25.cell? ⟨gb484, 4, none⟩ = some (.int .i64 ((rd_T26 l0 x34_1).f3)) := (blk_cell BK484.out 4).trans rfl; have hfz33_0 := blk_frozen BK484.out 0; have hfz33_1 := blk_frozen BK484.out 1; have hfz33_2 := blk_frozen BK484.out 2; have hfz33_3 := blk_frozen BK484.out 3; have hfz33_4 := blk_frozen BK484.out 4; have hcz34_0 : w25.cell? ⟨gb470, 0, none⟩ = some (.int .i64 a1_0) := (blk_cell BK470.out 0).trans rfl; have hcz34_1 : w25.cell? ⟨gb470, 1, none⟩ = some (.int .i64 a1_1) := (blk_cell BK470.out 1).trans rfl; have hcz34_2 : w25.cell? ⟨gb470, 2, none⟩ = some (.int .i64 a1_2) := (blk_cell BK470.out 2).trans rfl; have hcz34_3 : w25.cell? ⟨gb470, 3, none⟩ = some (.int .i64 a1_3) := (blk_cell BK470.out 3).trans rfl; have hcz34_4 : w25.cell? ⟨gb470, 4, none⟩ = some (.int .i64 a1_4) := (blk_cell BK470.out 4).trans rfl; have hfz34_0 := blk_frozen BK470.out 0; have hfz34_1 := blk_frozen BK470.out 1; have hfz34_2 := blk_frozen BK470.out 2; have hfz34_3 := blk_frozen BK470.out 3; have hfz34_4 := blk_frozen BK470.out 4; go_wp2
           go_meet
           case rel => exact ⟨_, (false), (by first | rfl | (simp; done) | (simp [*]; done)), H', ⟨by have := HK1.out; first | omega | exact Nat.le_refl _⟩, ⟨by (with_reducible repeat (first | apply Kd.R_alloc | apply Kd.R_drewN | apply Kd.R_drew)); exact HO_5.out⟩, ⟨by (with_reducible repeat (first | refine blk_drewN ?_ _ | refine blk_drew ?_ | refine blk_alloc ?_ _)); exact BK470.out⟩, ⟨by (with_reducible repeat (first | refine blk_drewN ?_ _ | refine blk_drew ?_ | refine blk_alloc ?_ _)); exact BK484.out⟩, ⟨by repeat (first | (with_reducible first | exact HB.out | apply below_alloc | apply pw_below_drewN | apply below_drew1 | refine below_set ?_ GE470.out | refine below_set ?_ GE484.out) | exact HB.out)⟩⟩
         case rest =>
          clear HC18
          try clear c1
          try clear c2
          try clear p2
          try clear c3
          try clear c4
          try clear p4
          try clear q4
          try clear hx4
          try clear c6
          try clear c8
          try clear c8b0
          try clear c8b1
          try clear c10
          try clear c11
          try clear c12
          try clear c13
          try clear c13b0
          try clear c14
          try clear c14b0
          try clear c15
          try clear c15b0
          try clear c20
          try clear c26
          try clear c26b0
          try clear c26b1
          try clear c26b2
          try clear c28
          try clear c32
          try clear hcz11_0
          try clear hcz11_1
          try clear hcz11_2
          try clear hcz11_3
          try clear hcz11_4
          try clear hcz21_0
          try clear hcz21_1
          try clear hcz21_2
          try clear hcz21_3
          try clear hcz21_4
          try clear hcz23_0
          try clear hcz23_1
          try clear hcz23_2
          try clear hcz23_3
          try clear hcz23_4
          try clear hcz29_0
          try clear hcz29_1
          try clear hcz29_2
          try clear hcz29_3
          try clear hcz29_4
          try clear hcz30_0
          try clear hcz30_1
          try clear hcz30_2
          try clear hcz30_3
          try clear hcz30_4
          try clear hcz33_0
          try clear hcz33_1
          try clear hcz33_2
          try clear hcz33_3
          try clear hcz33_4
          try clear hcz34_0
          try clear hcz34_1
          try clear hcz34_2
          try clear hcz34_3
          try clear hcz34_4
          try clear hfz11_0
          try clear hfz11_1
          try clear hfz11_2
          try clear hfz11_3
          try clear hfz11_4
          try clear hfz21_0
          try clear hfz21_1
          try clear hfz21_2
          try clear hfz21_3
          try clear hfz21_4
          try clear hfz23_0
          try clear hfz23_1
          try clear hfz23_2
          try clear hfz23_3
          try clear hfz23_4
          try clear hfz29_0
          try clear hfz29_1
          try clear hfz29_2
          try clear hfz29_3
          try clear hfz29_4
          try clear hfz30_0
          try clear hfz30_1
          try clear hfz30_2
          try clear hfz30_3
          try clear hfz30_4
          try clear hfz33_0
          try clear hfz33_1
          try clear hfz33_2
          try clear hfz33_3
          try clear hfz33_4
          try clear hfz34_0
          try clear hfz34_1
          try clear hfz34_2
          try clear hfz34_3
          try clear hfz34_4
          try clear hx483_0
          try clear hx483_1
          try clear hx483_2
          try clear hx483_3
          try clear hx483_4
          try clear p2
          try clear p483
          try clear q483
          obtain ⟨kq, x65_17, rfl, HA, HJ17, HO_5, BK470, BK484, HB⟩ := hcut; cases kq with
          | zero => exact absurd HA.out (by simp [sizarlaw26_WaitingOthers.j1])
          | succ kj17 =>
           have H := HA.out; clear HA; simp only [sizarlaw26_WaitingOthers.j1] at H; have HC35 := Aside0.mk H; clear H; go_upto_if 65 with (fail)
           go_cut [13] (fun v13 wc => ∃ (kq : Nat) (x13_34 : Int), v13 = .int .i64 x13_34 ∧ Aside0 (sizarlaw26_WaitingOthers.j2 kq l0 t473 t485 t486 t487 t488 x13_34 l0 (l0.length : Int) x34_1 a1_0 a1_1 a1_2 a1_3 a1_4 ((rd_T26 l0 x34_1).f0) ((rd_T26 l0 x34_1).f1.f0) ((rd_T26 l0 x34_1).f1.f1) ((rd_T26 l0 x34_1).f2) ((rd_T26 l0 x34_1).f3) = some r) ∧ Aside0 (kq ≤ kj17) ∧ Aside0 (Kd.R k26 26 wc w.heap.size (fun k_ => k_ ≠ gb470 ∧ k_ ≠ gb484) (.slice Ao24 t473.length co24) t473) ∧ Aside0 (wc.heap[gb470]? = some (.cells #[.int .i64 a1_0, .int .i64 a1_1, .int .i64 a1_2, .int .i64 a1_3, .int .i64 a1_4] 26 (0, 0))) ∧ Aside0 (wc.heap[gb484]? = some (.cells #[.int .i64 ((rd_T26 l0 x34_1).f0), .int .i64 ((rd_T26 l0 x34_1).f1.f0), .int .i64 ((rd_T26 l0 x34_1).f1.f1), .int .i64 ((rd_T26 l0 x34_1).f2), .int .i64 ((rd_T26 l0 x34_1).f3)] 26 (0, 0))) ∧ Aside0 (Below w.heap.size w wc))
           case first =>
            have H := HC35.out; clear HC35; by_cases c36 : x65_17 = true
            ·subst c36; have H1 : (sizarlaw26_WaitingOthers.j2 kj17 l0 t473 t485 t486 t487 t488 1 l0 (l0.length : Int) x34_1 a1_0 a1_1 a1_2 a1_3 a1_4 ((rd_T26 l0 x34_1).f0) ((rd_T26 l0 x34_1).f1.f0) ((rd_T26 l0 x34_1).f1.f1) ((rd_T26 l0 x34_1).f2) ((rd_T26 l0 x34_1).f3)) = some r := by rw [if_pos rfl] at H; exact H
             clear H; have H := H1; clear H1; have H' := Aside0.mk H; clear H; go_wp2
             go_meet
             case rel => exact ⟨_, (1), (by first | rfl | (simp; done) | (simp [*]; done)), H', ⟨by have := HK1.out; have := HJ17.out; first | omega | exact Nat.le_refl _⟩, ⟨by (with_reducible repeat (first | apply Kd.R_alloc | apply Kd.R_drewN | apply Kd.R_drew)); exact HO_5.out⟩, ⟨by (with_reducible repeat (first | refine blk_drewN ?_ _ | refine blk_drew ?_ | refine blk_alloc ?_ _)); exact BK470.out⟩, ⟨by (with_reducible repeat (first | refine blk_drewN ?_ _ | refine blk_drew ?_ | refine blk_alloc ?_ _)); exact BK484.out⟩, ⟨by repeat (first | (with_reducible first | exact HB.out | apply below_alloc | apply pw_below_drewN | apply below_drew1 | refine below_set ?_ GE470.out | refine below_set ?_ GE484.out) | exact HB.out)⟩⟩
            ·replace c36 := Bool.eq_false_iff.mpr c36; subst c36; have H1 : (sizarlaw26_WaitingOthers.j2 kj17 l0 t473 t485 t486 t487 t488 0 l0 (l0.length : Int) x34_1 a1_0 a1_1 a1_2 a1_3 a1_4 ((rd_T26 l0 x34_1).f0) ((rd_T26 l0 x34_1).f1.f0) ((rd_T26 l0 x34_1).f1.f1) ((rd_T26 l0 x34_1).f2) ((rd_T26 l0 x34_1).f3)) = some r := by rw [if_neg (show ¬ (false = true) by decide)] at H; exact H
             clear H; have H := H1; clear H1; have H' := Aside0.mk H; clear H; go_wp2
             go_meet
             case rel => exact ⟨_, (0), (by first | rfl | (simp; done) | (simp [*]; done)), H', ⟨by have := HK1.out; have := HJ17.out; first | omega | exact Nat.le_refl _⟩, ⟨by (with_reducible repeat (first | apply Kd.R_alloc | apply Kd.R_drewN | apply Kd.R_drew)); exact HO_5.out⟩, ⟨by (with_reducible repeat (first | refine blk_drewN ?_ _ | refine blk_drew ?_ | refine blk_alloc ?_ _)); exact BK470.out⟩, ⟨by (with_reducible repeat (first | refine blk_drewN ?_ _ | refine blk_drew ?_ | refine blk_alloc ?_ _)); exact BK484.out⟩, ⟨by repeat (first | (with_reducible first | exact HB.out | apply below_alloc | apply pw_below_drewN | apply below_drew1 | refine below_set ?_ GE470.out | refine below_set ?_ GE484.out) | exact HB.out)⟩⟩
           case rest =>
            clear HC35
            try clear c1
            try clear c2
            try clear p2
            try clear c3
            try clear c4
            try clear p4
            try clear q4
            try clear hx4
            try clear c6
            try clear c8
            try clear c8b0
            try clear c8b1
            try clear c10
            try clear c11
            try clear c12
            try clear c13
            try clear c13b0
            try clear c14
            try clear c14b0
            try clear c15
            try clear c15b0
            try clear c20
            try clear c26
            try clear c26b0
            try clear c26b1
            try clear c26b2
            try clear c28
            try clear c32
            try clear c36
            try clear hcz11_0
            try clear hcz11_1
            try clear hcz11_2
            try clear hcz11_3
            try clear hcz11_4
            try clear hcz21_0
            try clear hcz21_1
            try clear hcz21_2
            try clear hcz21_3
            try clear hcz21_4
            try clear hcz23_0
            try clear hcz23_1
            try clear hcz23_2
            try clear hcz23_3
            try clear hcz23_4
            try clear hcz29_0
            try clear hcz29_1
            try clear hcz29_2
            try clear hcz29_3
            try clear hcz29_4
            try clear hcz30_0
            try clear hcz30_1
            try clear hcz30_2
            try clear hcz30_3
            try clear hcz30_4
            try clear hcz33_0
            try clear hcz33_1
            try clear hcz33_2
            try clear hcz33_3
            try clear hcz33_4
            try clear hcz34_0
            try clear hcz34_1
            try clear hcz34_2
            try clear hcz34_3
            try clear hcz34_4
            try clear hfz11_0
            try clear hfz11_1
            try clear hfz11_2
            try clear hfz11_3
            try clear hfz11_4
            try clear hfz21_0
            try clear hfz21_1
            try clear hfz21_2
            try clear hfz21_3
            try clear hfz21_4
            try clear hfz23_0
            try clear hfz23_1
            try clear hfz23_2
            try clear hfz23_3
            try clear hfz23_4
            try clear hfz29_0
            try clear hfz29_1
            try clear hfz29_2
            try clear hfz29_3
            try clear hfz29_4
            try clear hfz30_0
            try clear hfz30_1
            try clear hfz30_2
            try clear hfz30_3
            try clear hfz30_4
            try clear hfz33_0
            try clear hfz33_1
            try clear hfz33_2
            try clear hfz33_3
            try clear hfz33_4
            try clear hfz34_0
            try clear hfz34_1
            try clear hfz34_2
            try clear hfz34_3
            try clear hfz34_4
            try clear hx483_0
            try clear hx483_1
            try clear hx483_2
            try clear hx483_3
            try clear hx483_4
            try clear p2
            try clear p4
            try clear p483
            try clear q4
            try clear q483
            obtain ⟨kq, x13_34, rfl, HA, HJ34, HO_5, BK470, BK484, HB⟩ := hcut; cases kq with
            | zero => exact absurd HA.out (by simp [sizarlaw26_WaitingOthers.j2])
            | succ kj34 =>
             have H := HA.out; clear HA; simp only [sizarlaw26_WaitingOthers.j2] at H; have HC37 := Aside0.mk H; clear H; go_upto_region 16 with (fail)
             go_cut [78] (fun v78 wc => ∃ (kq : Nat) (x78_36 : Bool), v78 = .bool x78_36 ∧ Aside0 (sizarlaw26_WaitingOthers.j3 kq l0 t473 l0 (l0.length : Int) x34_1 x78_36 a1_0 a1_1 a1_2 a1_3 a1_4 ((rd_T26 l0 x34_1).f0) ((rd_T26 l0 x34_1).f1.f0) ((rd_T26 l0 x34_1).f1.f1) ((rd_T26 l0 x34_1).f2) ((rd_T26 l0 x34_1).f3) = some r) ∧ Aside0 (kq ≤ kj34) ∧ Aside0 (Kd.R k26 26 wc w.heap.size (fun k_ => k_ ≠ gb470 ∧ k_ ≠ gb484) (.slice Ao24 t473.length co24) t473) ∧ Aside0 (wc.heap[gb470]? = some (.cells #[.int .i64 a1_0, .int .i64 a1_1, .int .i64 a1_2, .int .i64 a1_3, .int .i64 a1_4] 26 (0, 0))) ∧ Aside0 (wc.heap[gb484]? = some (.cells #[.int .i64 ((rd_T26 l0 x34_1).f0), .int .i64 ((rd_T26 l0 x34_1).f1.f0), .int .i64 ((rd_T26 l0 x34_1).f1.f1), .int .i64 ((rd_T26 l0 x34_1).f2), .int .i64 ((rd_T26 l0 x34_1).f3)] 26 (0, 0))) ∧ Aside0 (Below w.heap.size w wc))
             case first =>
              have H := HC37.out; clear HC37; by_cases c38 : t486 = true
              ·subst c38; have H1 : (if t488 = true then (sizarlaw26_WaitingOthers.j3 kj34 l0 t473 l0 (l0.length : Int) x34_1 (t487 != (wrap64 (t485 + x13_34))) a1_0 a1_1 a1_2 a1_3 a1_4 ((rd_T26 l0 x34_1).f0) ((rd_T26 l0 x34_1).f1.f0) ((rd_T26 l0 x34_1).f1.f1) ((rd_T26 l0 x34_1).f2) ((rd_T26 l0 x34_1).f3)) else (sizarlaw26_WaitingOthers.j3 kj34 l0 t473 l0 (l0.length : Int) x34_1 true a1_0 a1_1 a1_2 a1_3 a1_4 ((rd_T26 l0 x34_1).f0) ((rd_T26 l0 x34_1).f1.f0) ((rd_T26 l0 x34_1).f1.f1) ((rd_T26 l0 x34_1).f2) ((rd_T26 l0 x34_1).f3))) = some r := by rw [if_pos rfl] at H; exact H
               clear H; have H := H1; clear H1; by_cases c39 : t488 = true
               ·subst c39; have H1 : (sizarlaw26_WaitingOthers.j3 kj34 l0 t473 l0 (l0.length : Int) x34_1 (t487 != (wrap64 (t485 + x13_34))) a1_0 a1_1 a1_2 a1_3 a1_4 ((rd_T26 l0 x34_1).f0) ((rd_T26 l0 x34_1).f1.f0) ((rd_T26 l0 x34_1).f1.f1) ((rd_T26 l0 x34_1).f2) ((rd_T26 l0 x34_1).f3)) = some r := by rw [if_pos rfl] at H; exact H
                clear H; have H := H1; clear H1; have H' := Aside0.mk H; clear H; go_wp2
                go_meet
                case rel => exact ⟨_, ((t487 != (wrap64 (t485 + x13_34)))), (by first | rfl | (simp; done) | (simp [*]; done)), H', ⟨by have := HK1.out; have := HJ17.out; have := HJ34.out; first | omega | exact Nat.le_refl _⟩, ⟨by (with_reducible repeat (first | apply Kd.R_alloc | apply Kd.R_drewN | apply Kd.R_drew)); exact HO_5.out⟩, ⟨by (with_reducible repeat (first | refine blk_drewN ?_ _ | refine blk_drew ?_ | refine blk_alloc ?_ _)); exact BK470.out⟩, ⟨by (with_reducible repeat (first | refine blk_drewN ?_ _ | refine blk_drew ?_ | refine blk_alloc ?_ _)); exact BK484.out⟩, ⟨by repeat (first | (with_reducible first | exact HB.out | apply below_alloc | apply pw_below_drewN | apply below_drew1 | refine below_set ?_ GE470.out | refine below_set ?_ GE484.out) | exact HB.out)⟩⟩
               ·replace c39 := Bool.eq_false_iff.mpr c39; subst c39; have H1 : (sizarlaw26_WaitingOthers.j3 kj34 l0 t473 l0 (l0.length : Int) x34_1 true a1_0 a1_1 a1_2 a1_3 a1_4 ((rd_T26 l0 x34_1).f0) ((rd_T26 l0 x34_1).f1.f0) ((rd_T26 l0 x34_1).f1.f1) ((rd_T26 l0 x34_1).f2) ((rd_T26 l0 x34_1).f3)) = some r := by rw [if_neg (show ¬ (false = true) by decide)] at H; exact H
                clear H; have H := H1; clear H1; have H' := Aside0.mk H; clear H; go_wp2
                go_meet
                case rel => exact ⟨_, (true), (by first | rfl | (simp; done) | (simp [*]; done)), H', ⟨by have := HK1.out; have := HJ17.out; have := HJ34.out; first | omega | exact Nat.le_refl _⟩, ⟨by (with_reducible repeat (first | apply Kd.R_alloc | apply Kd.R_drewN | apply Kd.R_drew)); exact HO_5.out⟩, ⟨by (with_reducible repeat (first | refine blk_drewN ?_ _ | refine blk_drew ?_ | refine blk_alloc ?_ _)); exact BK470.out⟩, ⟨by (with_reducible repeat (first | refine blk_drewN ?_ _ | refine blk_drew ?_ | refine blk_alloc ?_ _)); exact BK484.out⟩, ⟨by repeat (first | (with_reducible first | exact HB.out | apply below_alloc | apply pw_below_drewN | apply below_drew1 | refine below_set ?_ GE470.out | refine below_set ?_ GE484.out) | exact HB.out)⟩⟩
              ·replace c38 := Bool.eq_false_iff.mpr c38; subst c38; have H1 : (sizarlaw26_WaitingOthers.j3 kj34 l0 t473 l0 (l0.length : Int) x34_1 true a1_0 a1_1 a1_2 a1_3 a1_4 ((rd_T26 l0 x34_1).f0) ((rd_T26 l0 x34_1).f1.f0) ((rd_T26 l0 x34_1).f1.f1) ((rd_T26 l0 x34_1).f2) ((rd_T26 l0 x34_1).f3)) = some r := by rw [if_neg (show ¬ (false = true) by decide)] at H; exact H
               clear H; have H := H1; clear H1; have H' := Aside0.mk H; clear H; go_wp2
               go_meet
               case rel => exact ⟨_, (true), (by first | rfl | (simp; done) | (simp [*]; done)), H', ⟨by have := HK1.out; have := HJ17.out; have := HJ34.out; first | omega | exact Nat.le_refl _⟩, ⟨by (with_reducible repeat (first | apply Kd.R_alloc | apply Kd.R_drewN | apply Kd.R_drew)); exact HO_5.out⟩, ⟨by (with_reducible repeat (first | refine blk_drewN ?_ _ | refine blk_drew ?_ | refine blk_alloc ?_ _)); exact BK470.out⟩, ⟨by (with_reducible repeat (first | refine blk_drewN ?_ _ | refine blk_drew ?_ | refine blk_alloc ?_ _)); exact BK484.out⟩, ⟨by repeat (first | (with_reducible first | exact HB.out | apply below_alloc | apply pw_below_drewN | apply below_drew1 | refine below_set ?_ GE470.out | refine below_set ?_ GE484.out) | exact HB.out)⟩⟩
             case rest =>
              clear HC37
              try clear c1
              try clear c2
              try clear p2
              try clear c3
              try clear c4
              try clear p4
              try clear q4
              try clear hx4
              try clear c6
              try clear p6
              try clear c8
              try clear c8b0
              try clear c8b1
              try clear c10
              try clear c11
              try clear c12
              try clear c13
              try clear c13b0
              try clear c14
              try clear c14b0
              try clear c15
              try clear c15b0
              try clear c20
              try clear c26
              try clear c26b0
              try clear c26b1
              try clear c26b2
              try clear c28
              try clear c32
              try clear c36
              try clear c38
              try clear c39
              try clear hcz11_0
              try clear hcz11_1
              try clear hcz11_2
              try clear hcz11_3
              try clear hcz11_4
              try clear hcz21_0
              try clear hcz21_1
              try clear hcz21_2
              try clear hcz21_3
              try clear hcz21_4
              try clear hcz23_0
              try clear hcz23_1
              try clear hcz23_2
              try clear hcz23_3
              try clear hcz23_4
              try clear hcz29_0
              try clear hcz29_1
              try clear hcz29_2
              try clear hcz29_3
              try clear hcz29_4
              try clear hcz30_0
              try clear hcz30_1
              try clear hcz30_2
              try clear hcz30_3
              try clear hcz30_4
              try clear hcz33_0
              try clear hcz33_1
              try clear hcz33_2
              try clear hcz33_3
              try clear hcz33_4
              try clear hcz34_0
              try clear hcz34_1
              try clear hcz34_2
              try clear hcz34_3
              try clear hcz34_4
              try clear hfz11_0
              try clear hfz11_1
              try clear hfz11_2
              try clear hfz11_3
              try clear hfz11_4
              try clear hfz21_0
              try clear hfz21_1
              try clear hfz21_2
              try clear hfz21_3
              try clear hfz21_4
              try clear hfz23_0
              try clear hfz23_1
              try clear hfz23_2
              try clear hfz23_3
              try clear hfz23_4
              try clear hfz29_0
              try clear hfz29_1
              try clear hfz29_2
              try clear hfz29_3
              try clear hfz29_4
              try clear hfz30_0
              try clear hfz30_1
              try clear hfz30_2
              try clear hfz30_3
              try clear hfz30_4
              try clear hfz33_0
              try clear hfz33_1
              try clear hfz33_2
              try clear hfz33_3
              try clear hfz33_4
              try clear hfz34_0
              try clear hfz34_1
              try clear hfz34_2
              try clear hfz34_3
              try clear hfz34_4
              try clear hx483_0
              try clear hx483_1
              try clear hx483_2
              try clear hx483_3
              try clear hx483_4
              try clear p2
              try clear p4
              try clear p483
              try clear q4
              try clear q483
              obtain ⟨kq, x78_36, rfl, HA, HJ36, HO_5, BK470, BK484, HB⟩ := hcut; cases kq with
              | zero => exact absurd HA.out (by simp [sizarlaw26_WaitingOthers.j3])
              | succ kj36 =>
               have H := HA.out; clear HA; simp only [sizarlaw26_WaitingOthers.j3] at H; by_cases c40 : x78_36 = true
               ·subst c40; have H1 : (none) = some r := by rw [if_pos rfl] at H; exact H
                clear H; have H := H1; clear H1; exact absurd H (by simp)
               ·replace c40 := Bool.eq_false_iff.mpr c40; subst c40; have H1 : ((waiting_Of.f kj36 l0 ((rd_T26 l0 x34_1).f0)).bind fun t490 => ((waiting_Of.f kj36 t473 ((rd_T26 l0 x34_1).f0)).bind fun t493 => (if ((rd_T26 l0 x34_1).f0) = a1_0 then (sizarlaw26_WaitingOthers.l0 kj36 l0 t473 l0 (l0.length : Int) (wrap64 (x34_1 + 1)) a1_0 a1_1 a1_2 a1_3 a1_4) else ((sizarref26_SameBundles.f kj36 t490 t493).bind fun t496 => (if t496 = true then (sizarlaw26_WaitingOthers.l0 kj36 l0 t473 l0 (l0.length : Int) (wrap64 (x34_1 + 1)) a1_0 a1_1 a1_2 a1_3 a1_4) else (none)))))) = some r := by rw [if_neg (show ¬ (false = true) by decide)] at H; exact H
                clear H; have H := H1; clear H1; replace H := Option.bind_eq_some_iff.mp H; obtain ⟨t490, A410, H⟩ := H; replace H : ((waiting_Of.f kj36 t473 ((rd_T26 l0 x34_1).f0)).bind fun t493 => (if ((rd_T26 l0 x34_1).f0) = a1_0 then (sizarlaw26_WaitingOthers.l0 kj36 l0 t473 l0 (l0.length : Int) (wrap64 (x34_1 + 1)) a1_0 a1_1 a1_2 a1_3 a1_4) else ((sizarref26_SameBundles.f kj36 t490 t493).bind fun t496 => (if t496 = true then (sizarlaw26_WaitingOthers.l0 kj36 l0 t473 l0 (l0.length : Int) (wrap64 (x34_1 + 1)) a1_0 a1_1 a1_2 a1_3 a1_4) else (none))))) = some r := H; have A41 := Aside0.mk A410; clear A410; replace H := Option.bind_eq_some_iff.mp H; obtain ⟨t493, A420, H⟩ := H; replace H : (if ((rd_T26 l0 x34_1).f0) = a1_0 then (sizarlaw26_WaitingOthers.l0 kj36 l0 t473 l0 (l0.length : Int) (wrap64 (x34_1 + 1)) a1_0 a1_1 a1_2 a1_3 a1_4) else ((sizarref26_SameBundles.f kj36 t490 t493).bind fun t496 => (if t496 = true then (sizarlaw26_WaitingOthers.l0 kj36 l0 t473 l0 (l0.length : Int) (wrap64 (x34_1 + 1)) a1_0 a1_1 a1_2 a1_3 a1_4) else (none)))) = some r := H; have A42 := Aside0.mk A420; clear A420; by_cases c43 : ((rd_T26 l0 x34_1).f0) = a1_0
                ·rw [if_pos c43] at H; have c43b0 : (((rd_T26 l0 x34_1).f0) == a1_0) = true := beq_iff_eq.mpr c43; have c43b1 : (((rd_T26 l0 x34_1).f0) != a1_0) = false := bne_eq_false_iff_eq.mpr c43; clear c43; have H' := Aside0.mk H; clear H
                 try go_wp2
                 have n0_ := Aside0.mk (Kd.R_drew HO_5.out); have n1_ := Aside0.mk (blk_drew BK470.out); have n2_ := Aside0.mk (blk_drew BK484.out); have n3_ := Aside0.mk (below_drew1 HB.out); clear HO_5; clear BK470; clear BK484; clear HB; have HO_5 := n0_; have BK470 := n1_; have BK484 := n2_; have HB := n3_; clear n0_ n1_ n2_ n3_; refine start_ (n := 10) (S := fun w' => w'.cell? ⟨gb484, 0, none⟩ = some (.int .i64 ((rd_T26 l0 x34_1).f0)) ∧ w'.cell? ⟨gb484, 1, none⟩ = some (.int .i64 ((rd_T26 l0 x34_1).f1.f0)) ∧ w'.cell? ⟨gb484, 2, none⟩ = some (.int .i64 ((rd_T26 l0 x34_1).f1.f1)) ∧ w'.cell? ⟨gb484, 3, none⟩ = some (.int .i64 ((rd_T26 l0 x34_1).f2)) ∧ w'.cell? ⟨gb484, 4, none⟩ = some (.int .i64 ((rd_T26 l0 x34_1).f3))) (ds := []) #[nF,nF,nF,nF,nF,nF,nF,nF,nF,nF] (by kernel_rfl) rfl rfl ⟨(blk_cell BK484.out 0).trans rfl, (blk_cell BK484.out 1).trans rfl, (blk_cell BK484.out 2).trans rfl, (blk_cell BK484.out 3).trans rfl, (blk_cell BK484.out 4).trans rfl⟩ (fun hHeld => ?_); refine with_tabW sizarlaw26_WaitingOthers.tab18 sizarlaw26_WaitingOthers.bits18 (fun HT_ HW_ => ?_); generalize wc.drew = w44 at HO_5 BK470 BK484 HB hHeld ⊢; refine pure_ (i := 0) (N := some 79) (v := ?_) (a' := ?_) #[yT,nF,nF,nF,nF,nF,nF,nF,nF,nF] rfl rfl (any_of HT_.out (by kernel_rfl)) (fun _ _ _ h => h) (Or.inl ⟨by rfl, ?_⟩) ?_ ?_; rotate_left; (intro w'; go_simp; with_reducible rfl); rotate_left; (simp only [Act.put, sqA, sqB, sqC, i64_w, i32_w]; rfl); refine pure_ (i := 1) (N := some 80) (v := ?_) (a' := ?_) #[yT,yT,nF,nF,nF,nF,nF,nF,nF,nF] rfl rfl (any_of HT_.out (by kernel_rfl)) (fun _ _ _ h => h) (Or.inl ⟨by rfl, ?_⟩) ?_ ?_; rotate_left; (intro w'; go_simp; with_reducible rfl); rotate_left; (simp only [Act.put, sqA, sqB, sqC, i64_w, i32_w]; rfl); refine pure_ (i := 4) (N := some 83) (v := ?_) (a' := ?_) #[yT,yT,nF,nF,yT,nF,nF,nF,nF,nF] rfl rfl (any_of HT_.out (by kernel_rfl)) (fun _ _ _ h => h) (Or.inl ⟨by rfl, ?_⟩) ?_ ?_; rotate_left; (intro w'; go_simp; with_reducible rfl); rotate_left; (simp only [Act.put, sqA, sqB, sqC, i64_w, i32_w]; rfl); refine pure_ (i := 5) (N := some 84) (v := ?_) (a' := ?_) #[yT,yT,nF,nF,yT,yT,nF,nF,nF,nF] rfl rfl (any_of HT_.out (by kernel_rfl)) (fun _ _ _ h => h) (Or.inl ⟨by rfl, ?_⟩) ?_ ?_; rotate_left; (intro w'; go_simp; with_reducible rfl); rotate_left; (simp only [Act.put, sqA, sqB, sqC, i64_w, i32_w]; rfl); refine take_ (i := 2) (N := some 81) (v := ?_) (a' := ?_) #[yT,yT,yT,nF,yT,yT,nF,nF,nF,nF] rfl rfl (take_ofW HT_.out HW_.out (by kernel_rfl)) (fun _ _ _ h => h) (Or.inl ⟨by rfl, ?_⟩) hHeld ?_ ?_; rotate_left; (rintro w' ⟨s0, s1, s2, s3, s4⟩; go_simp; with_reducible rfl); rotate_left; (simp only [Act.put, sqA, sqB, sqC, i64_w, i32_w]; rfl); refine take_ (i := 6) (N := some 85) (v := ?_) (a' := ?_) #[yT,yT,yT,nF,yT,yT,yT,nF,nF,nF] rfl rfl (take_ofW HT_.out HW_.out (by kernel_rfl)) (fun _ _ _ h => h) (Or.inl ⟨by rfl, ?_⟩) hHeld ?_ ?_; rotate_left; (rintro w' ⟨s0, s1, s2, s3, s4⟩; go_simp; with_reducible rfl); rotate_left; (simp only [Act.put, sqA, sqB, sqC, i64_w, i32_w]; rfl); refine one_ (i := 3) (N := some 82) #[yT,yT,yT,yT,yT,yT,yT,nF,nF,nF] rfl rfl (one_of HT_.out (by kernel_rfl)) (by decide) (fun K hK => ?_); refine goes_ Try.func15 (by kernel_rfl) rfl #[.slice (some ad483) l0.length c0, .int .i64 ((rd_T26 l0 x34_1).f0)] (by rfl) rfl rfl (by (try simp only [List.map_toArray, List.map_cons, List.map_nil]); first | done | rfl | (simp only [List.length_drop, List.length_take]; rfl)) ?_; with_reducible refine (waiting_Of.calls kj36 _ _ l0 ((rd_T26 l0 x34_1).f0) t490 _ ?side1 ?side2 A41.out).mono ?_
                 (case side1 => repeat (first | exact (Kd.C_below HR0.out HB.out) | (with_reducible refine Kd.C_alloc ?_ _) | (with_reducible refine Kd.C_drewN ?_ _) | (with_reducible refine Kd.C_drew ?_)))
                 (case side2 => exact HC0.out)
                 rintro e w45 ⟨v491, rfl, ho0, hb⟩; refine ⟨_, rfl, ?_⟩; have n0_ := Aside0.mk (Kd.R_below (by (with_reducible repeat (first | apply Kd.R_alloc | apply Kd.R_drewN | apply Kd.R_drew)); exact HO_5.out) hb); have n1_ := Aside0.mk (Kd.R_lower ho0 (below_size (by repeat (first | (with_reducible first | exact HB.out | apply below_alloc | apply pw_below_drewN | apply below_drew1 | refine below_set ?_ GE470.out | refine below_set ?_ GE484.out) | exact HB.out)))); have n2_ := Aside0.mk (blk_below (g := gb470) (o := .cells #[.int .i64 a1_0, .int .i64 a1_1, .int .i64 a1_2, .int .i64 a1_3, .int .i64 a1_4] 26 (0, 0)) (by (with_reducible repeat (first | refine blk_drewN ?_ _ | refine blk_drew ?_ | refine blk_alloc ?_ _)); exact BK470.out) hb); have n3_ := Aside0.mk (blk_below (g := gb484) (o := .cells #[.int .i64 ((rd_T26 l0 x34_1).f0), .int .i64 ((rd_T26 l0 x34_1).f1.f0), .int .i64 ((rd_T26 l0 x34_1).f1.f1), .int .i64 ((rd_T26 l0 x34_1).f2), .int .i64 ((rd_T26 l0 x34_1).f3)] 26 (0, 0)) (by (with_reducible repeat (first | refine blk_drewN ?_ _ | refine blk_drew ?_ | refine blk_alloc ?_ _)); exact BK484.out) hb); have n4_ := Aside0.mk (below_step (by repeat (first | (with_reducible first | exact HB.out | apply below_alloc | apply pw_below_drewN | apply below_drew1 | refine below_set ?_ GE470.out | refine below_set ?_ GE484.out) | exact HB.out)) hb); clear HO_5; clear BK470; clear BK484; clear HB; have HO_5 := n0_; have HO492 := n1_; have BK470 := n2_; have BK484 := n3_; have HB := n4_; clear n0_ n1_ n2_ n3_ n4_; (try clear hb)
                 (try clear hb2)
                 (try clear hk)
                 (try clear hi)
                 (try clear ho0)
                 refine hK.out _ _ ⟨(blk_cell BK484.out 0).trans rfl, (blk_cell BK484.out 1).trans rfl, (blk_cell BK484.out 2).trans rfl, (blk_cell BK484.out 3).trans rfl, (blk_cell BK484.out 4).trans rfl⟩ (fun hHeld => ?_); clear hK K; refine norm_ (a' := ?_) ?_ ?_; rotate_left
                 ·show Act.put _ (some 82) _ = _
                  simp only [Act.put, sqA, sqB, sqC, i64_w, i32_w]; rfl
                 refine one_ (i := 7) (N := some 86) #[yT,yT,yT,yT,yT,yT,yT,yT,nF,nF] rfl rfl (one_of HT_.out (by kernel_rfl)) (by decide) (fun K hK => ?_); refine goes_ Try.func15 (by kernel_rfl) rfl #[.slice Ao24 t473.length co24, .int .i64 ((rd_T26 l0 x34_1).f0)] (by rfl) rfl rfl (by (try simp only [List.map_toArray, List.map_cons, List.map_nil]); first | done | rfl | (simp only [List.length_drop, List.length_take]; rfl)) ?_; with_reducible refine (waiting_Of.calls kj36 _ _ t473 ((rd_T26 l0 x34_1).f0) t493 _ ?side1 ?side2 A42.out).mono ?_
                 (case side1 => repeat (first | exact (Kd.R_reads' HO_5.out).2.2 | (with_reducible refine Kd.C_alloc ?_ _) | (with_reducible refine Kd.C_drewN ?_ _) | (with_reducible refine Kd.C_drew ?_)))
                 (case side2 => exact (Kd.R_reads' HO_5.out).2.1)
                 rintro e w46 ⟨v494, rfl, ho0, hb⟩; refine ⟨_, rfl, ?_⟩; have n0_ := Aside0.mk (Kd.R_below (by (with_reducible repeat (first | apply Kd.R_alloc | apply Kd.R_drewN | apply Kd.R_drew)); exact HO_5.out) hb); have n1_ := Aside0.mk (Kd.R_elder' (by (with_reducible repeat (first | apply Kd.R_alloc | apply Kd.R_drewN | apply Kd.R_drew)); exact HO492.out) (Kd.R_base ho0) hb); have n2_ := Aside0.mk (Kd.R_lower (Kd.R_new' ho0 (Kd.R_lt (by (with_reducible repeat (first | apply Kd.R_alloc | apply Kd.R_drewN | apply Kd.R_drew)); exact HO492.out))) (below_size (by repeat (first | (with_reducible first | exact HB.out | apply below_alloc | apply pw_below_drewN | apply below_drew1 | refine below_set ?_ GE470.out | refine below_set ?_ GE484.out) | exact HB.out)))); have n3_ := Aside0.mk (blk_below (g := gb470) (o := .cells #[.int .i64 a1_0, .int .i64 a1_1, .int .i64 a1_2, .int .i64 a1_3, .int .i64 a1_4] 26 (0, 0)) (by (with_reducible repeat (first | refine blk_drewN ?_ _ | refine blk_drew ?_ | refine blk_alloc ?_ _)); exact BK470.out) hb); have n4_ := Aside0.mk (blk_below (g := gb484) (o := .cells #[.int .i64 ((rd_T26 l0 x34_1).f0), .int .i64 ((rd_T26 l0 x34_1).f1.f0), .int .i64 ((rd_T26 l0 x34_1).f1.f1), .int .i64 ((rd_T26 l0 x34_1).f2), .int .i64 ((rd_T26 l0 x34_1).f3)] 26 (0, 0)) (by (with_reducible repeat (first | refine blk_drewN ?_ _ | refine blk_drew ?_ | refine blk_alloc ?_ _)); exact BK484.out) hb); have n5_ := Aside0.mk (below_step (by repeat (first | (with_reducible first | exact HB.out | apply below_alloc | apply pw_below_drewN | apply below_drew1 | refine below_set ?_ GE470.out | refine below_set ?_ GE484.out) | exact HB.out)) hb); clear HO_5; clear HO492; clear BK470; clear BK484; clear HB; have HO_5 := n0_; have HO492 := n1_; have HO495 := n2_; have BK470 := n3_; have BK484 := n4_; have HB := n5_; clear n0_ n1_ n2_ n3_ n4_ n5_; (try clear hb)
                 (try clear hb2)
                 (try clear hk)
                 (try clear hi)
                 (try clear ho0)
                 refine hK.out _ _ ⟨(blk_cell BK484.out 0).trans rfl, (blk_cell BK484.out 1).trans rfl, (blk_cell BK484.out 2).trans rfl, (blk_cell BK484.out 3).trans rfl, (blk_cell BK484.out 4).trans rfl⟩ (fun hHeld => ?_); clear hK K; refine norm_ (a' := ?_) ?_ ?_; rotate_left
                 ·show Act.put _ (some 86) _ = _
                  simp only [Act.put, sqA, sqB, sqC, i64_w, i32_w]; rfl
                 refine pure_ (i := 8) (N := some 14) (v := ?_) (a' := ?_) #[yT,yT,yT,yT,yT,yT,yT,yT,yT,nF] rfl rfl (any_of HT_.out (by kernel_rfl)) (fun _ _ _ h => h) (Or.inl ⟨by rfl, ?_⟩) ?_ ?_; rotate_left; (intro w'; go_simp; with_reducible rfl); rotate_left; (simp only [Act.put, sqA, sqB, sqC, i64_w, i32_w]; rfl); refine pure_ (i := 9) (N := some 15) (v := ?_) (a' := ?_) #[yT,yT,yT,yT,yT,yT,yT,yT,yT,yT] rfl rfl (any_of HT_.out (by kernel_rfl)) (fun _ _ _ h => h) (Or.inl ⟨by rfl, ?_⟩) ?_ ?_; rotate_left; (intro w'; go_simp; with_reducible rfl); rotate_left; (simp only [Act.put, sqA, sqB, sqC, i64_w, i32_w]; rfl); refine done_ (done_of HT_.out (by kernel_rfl)) ?_; have hnb47 := NB484_470.out; have hnc47 := NB470_484.out; have hcz48_0 : w46.cell? ⟨gb484, 0, none⟩ = some (.int .i64 ((rd_T26 l0 x34_1).f0)) := (blk_cell BK484.out 0).trans rfl; have hcz48_1 : w46.cell? ⟨gb484, 1, none⟩ = some (.int .i64 ((rd_T26 l0 x34_1).f1.f0)) := (blk_cell BK484.out 1).trans rfl; have hcz48_2 : w46.cell? ⟨gb484, 2, none⟩ = some (.int .i64 ((rd_T26 l0 x34_1).f1.f1)) := (blk_cell BK484.out 2).trans rfl; have hcz48_3 : w46.cell? ⟨gb484, 3, none⟩ = some (.int .i64 ((rd_T26 l0 x34_1).f2)) := (blk_cell BK484.out 3).trans rfl; have hcz48_4 : w46.cell? ⟨gb484, 4, none⟩ = some (.int .i64 ((rd_T26 l0 x34_1).f3)) := (blk_cell BK484.out 4).trans rfl; have hfz48_0 := blk_frozen BK484.out 0; have hfz48_1 := blk_frozen BK484.out 1; have hfz48_2 := blk_frozen BK484.out 2; have hfz48_3 := blk_frozen BK484.out 3; have hfz48_4 := blk_frozen BK484.out 4; have hcz49_0 : w46.cell? ⟨gb470, 0, none⟩ = some (.int .i64 a1_0) := (blk_cell BK470.out 0).trans rfl; have hcz49_1 : w46.cell? ⟨gb470, 1, none⟩ = some (.int .i64 a1_1) := (blk_cell BK470.out 1).trans rfl; have hcz49_2 : w46.cell? ⟨gb470, 2, none⟩ = some (.int .i64 a1_2) := (blk_cell BK470.out 2).trans rfl; have hcz49_3 : w46.cell? ⟨gb470, 3, none⟩ = some (.int .i64 a1_3) := (blk_cell BK470.out 3).trans rfl; have hcz49_4 : w46.cell? ⟨gb470, 4, none⟩ = some (.int .i64 a1_4) := (blk_cell BK470.out 4).trans rfl; have hfz49_0 := blk_frozen BK470.out 0; have hfz49_1 := blk_frozen BK470.out 1; have hfz49_2 := blk_frozen BK470.out 2; have hfz49_3 := blk_frozen BK470.out 3; have hfz49_4 := blk_frozen BK470.out 4
                 try go_wp2
                 go_roundg kj36
                 case measure => have := HK1.out; have := HJ17.out; have := HJ34.out; have := HJ36.out; omega
                 case rel => exact ⟨(wrap64 (x34_1 + 1)), (by first | rfl | (simp; done) | (simp [*]; done)), H', ⟨by have := HK1.out; have := HJ17.out; have := HJ34.out; have := HJ36.out; omega⟩, ⟨by (with_reducible repeat (first | apply Kd.R_alloc | apply Kd.R_drewN | apply Kd.R_drew)); exact Kd.R_mono HO_5.out (fun _ hk => hk.1)⟩, ⟨by (with_reducible repeat (first | refine blk_drewN ?_ _ | refine blk_drew ?_ | refine blk_alloc ?_ _)); exact BK470.out⟩, ⟨by repeat (first | (with_reducible first | exact HB.out | apply below_alloc | apply pw_below_drewN | apply below_drew1 | refine below_set ?_ GE470.out | refine below_set ?_ GE484.out) | exact HB.out)⟩⟩
                ·rw [if_neg c43] at H; have c43b0 : (((rd_T26 l0 x34_1).f0) == a1_0) = false := beq_eq_false_iff_ne.mpr c43; have c43b1 : (((rd_T26 l0 x34_1).f0) != a1_0) = true := bne_iff_ne.mpr c43; replace H := Option.bind_eq_some_iff.mp H; obtain ⟨t496, A500, H⟩ := H; replace H : (if t496 = true then (sizarlaw26_WaitingOthers.l0 kj36 l0 t473 l0 (l0.length : Int) (wrap64 (x34_1 + 1)) a1_0 a1_1 a1_2 a1_3 a1_4) else (none)) = some r := H; have A50 := Aside0.mk A500; clear A500; by_cases c51 : t496 = true
                 ·subst c51; have H1 : (sizarlaw26_WaitingOthers.l0 kj36 l0 t473 l0 (l0.length : Int) (wrap64 (x34_1 + 1)) a1_0 a1_1 a1_2 a1_3 a1_4) = some r := by rw [if_pos rfl] at H; exact H
                  clear H; have H := H1; clear H1; have H' := Aside0.mk H; clear H
                  try go_wp2
                  have n0_ := Aside0.mk (Kd.R_drew HO_5.out); have n1_ := Aside0.mk (blk_drew BK470.out); have n2_ := Aside0.mk (blk_drew BK484.out); have n3_ := Aside0.mk (below_drew1 HB.out); clear HO_5; clear BK470; clear BK484; clear HB; have HO_5 := n0_; have BK470 := n1_; have BK484 := n2_; have HB := n3_; clear n0_ n1_ n2_ n3_; refine start_ (n := 10) (S := fun w' => w'.cell? ⟨gb484, 0, none⟩ = some (.int .i64 ((rd_T26 l0 x34_1).f0)) ∧ w'.cell? ⟨gb484, 1, none⟩ = some (.int .i64 ((rd_T26 l0 x34_1).f1.f0)) ∧ w'.cell? ⟨gb484, 2, none⟩ = some (.int .i64 ((rd_T26 l0 x34_1).f1.f1)) ∧ w'.cell? ⟨gb484, 3, none⟩ = some (.int .i64 ((rd_T26 l0 x34_1).f2)) ∧ w'.cell? ⟨gb484, 4, none⟩ = some (.int .i64 ((rd_T26 l0 x34_1).f3))) (ds := []) #[nF,nF,nF,nF,nF,nF,nF,nF,nF,nF] (by kernel_rfl) rfl rfl ⟨(blk_cell BK484.out 0).trans rfl, (blk_cell BK484.out 1).trans rfl, (blk_cell BK484.out 2).trans rfl, (blk_cell BK484.out 3).trans rfl, (blk_cell BK484.out 4).trans rfl⟩ (fun hHeld => ?_); refine with_tabW sizarlaw26_WaitingOthers.tab18 sizarlaw26_WaitingOthers.bits18 (fun HT_ HW_ => ?_); generalize wc.drew = w52 at HO_5 BK470 BK484 HB hHeld ⊢; refine pure_ (i := 0) (N := some 79) (v := ?_) (a' := ?_) #[yT,nF,nF,nF,nF,nF,nF,nF,nF,nF] rfl rfl (any_of HT_.out (by kernel_rfl)) (fun _ _ _ h => h) (Or.inl ⟨by rfl, ?_⟩) ?_ ?_; rotate_left; (intro w'; go_simp; with_reducible rfl); rotate_left; (simp only [Act.put, sqA, sqB, sqC, i64_w, i32_w]; rfl); refine pure_ (i := 1) (N := some 80) (v := ?_) (a' := ?_) #[yT,yT,nF,nF,nF,nF,nF,nF,nF,nF] rfl rfl (any_of HT_.out (by kernel_rfl)) (fun _ _ _ h => h) (Or.inl ⟨by rfl, ?_⟩) ?_ ?_; rotate_left; (intro w'; go_simp; with_reducible rfl); rotate_left; (simp only [Act.put, sqA, sqB, sqC, i64_w, i32_w]; rfl); refine pure_ (i := 4) (N := some 83) (v := ?_) (a' := ?_) #[yT,yT,nF,nF,yT,nF,nF,nF,nF,nF] rfl rfl (any_of HT_.out (by kernel_rfl)) (fun _ _ _ h => h) (Or.inl ⟨by rfl, ?_⟩) ?_ ?_; rotate_left; (intro w'; go_simp; with_reducible rfl); rotate_left; (simp only [Act.put, sqA, sqB, sqC, i64_w, i32_w]; rfl); refine pure_ (i := 5) (N := some 84) (v := ?_) (a' := ?_) #[yT,yT,nF,nF,yT,yT,nF,nF,nF,nF] rfl rfl (any_of HT_.out (by kernel_rfl)) (fun _ _ _ h => h) (Or.inl ⟨by rfl, ?_⟩) ?_ ?_; rotate_left; (intro w'; go_simp; with_reducible rfl); rotate_left; (simp only [Act.put, sqA, sqB, sqC, i64_w, i32_w]; rfl); refine take_ (i := 2) (N := some 81) (v := ?_) (a' := ?_) #[yT,yT,yT,nF,yT,yT,nF,nF,nF,nF] rfl rfl (take_ofW HT_.out HW_.out (by kernel_rfl)) (fun _ _ _ h => h) (Or.inl ⟨by rfl, ?_⟩) hHeld ?_ ?_; rotate_left; (rintro w' ⟨s0, s1, s2, s3, s4⟩; go_simp; with_reducible rfl); rotate_left; (simp only [Act.put, sqA, sqB, sqC, i64_w, i32_w]; rfl); refine take_ (i := 6) (N := some 85) (v := ?_) (a' := ?_) #[yT,yT,yT,nF,yT,yT,yT,nF,nF,nF] rfl rfl (take_ofW HT_.out HW_.out (by kernel_rfl)) (fun _ _ _ h => h) (Or.inl ⟨by rfl, ?_⟩) hHeld ?_ ?_; rotate_left; (rintro w' ⟨s0, s1, s2, s3, s4⟩; go_simp; with_reducible rfl); rotate_left; (simp only [Act.put, sqA, sqB, sqC, i64_w, i32_w]; rfl); refine one_ (i := 3) (N := some 82) #[yT,yT,yT,yT,yT,yT,yT,nF,nF,nF] rfl rfl (one_of HT_.out (by kernel_rfl)) (by decide) (fun K hK => ?_); refine goes_ Try.func15 (by kernel_rfl) rfl #[.slice (some ad483) l0.length c0, .int .i64 ((rd_T26 l0 x34_1).f0)] (by rfl) rfl rfl (by (try simp only [List.map_toArray, List.map_cons, List.map_nil]); first | done | rfl | (simp only [List.length_drop, List.length_take]; rfl)) ?_; with_reducible refine (waiting_Of.calls kj36 _ _ l0 ((rd_T26 l0 x34_1).f0) t490 _ ?side1 ?side2 A41.out).mono ?_
                  (case side1 => repeat (first | exact (Kd.C_below HR0.out HB.out) | (with_reducible refine Kd.C_alloc ?_ _) | (with_reducible refine Kd.C_drewN ?_ _) | (with_reducible refine Kd.C_drew ?_)))
                  (case side2 => exact HC0.out)
                  rintro e w53 ⟨v491, rfl, ho0, hb⟩; refine ⟨_, rfl, ?_⟩; have n0_ := Aside0.mk (Kd.R_below (by (with_reducible repeat (first | apply Kd.R_alloc | apply Kd.R_drewN | apply Kd.R_drew)); exact HO_5.out) hb); have n1_ := Aside0.mk (Kd.R_lower ho0 (below_size (by repeat (first | (with_reducible first | exact HB.out | apply below_alloc | apply pw_below_drewN | apply below_drew1 | refine below_set ?_ GE470.out | refine below_set ?_ GE484.out) | exact HB.out)))); have n2_ := Aside0.mk (blk_below (g := gb470) (o := .cells #[.int .i64 a1_0, .int .i64 a1_1, .int .i64 a1_2, .int .i64 a1_3, .int .i64 a1_4] 26 (0, 0)) (by (with_reducible repeat (first | refine blk_drewN ?_ _ | refine blk_drew ?_ | refine blk_alloc ?_ _)); exact BK470.out) hb); have n3_ := Aside0.mk (blk_below (g := gb484) (o := .cells #[.int .i64 ((rd_T26 l0 x34_1).f0), .int .i64 ((rd_T26 l0 x34_1).f1.f0), .int .i64 ((rd_T26 l0 x34_1).f1.f1), .int .i64 ((rd_T26 l0 x34_1).f2), .int .i64 ((rd_T26 l0 x34_1).f3)] 26 (0, 0)) (by (with_reducible repeat (first | refine blk_drewN ?_ _ | refine blk_drew ?_ | refine blk_alloc ?_ _)); exact BK484.out) hb); have n4_ := Aside0.mk (below_step (by repeat (first | (with_reducible first | exact HB.out | apply below_alloc | apply pw_below_drewN | apply below_drew1 | refine below_set ?_ GE470.out | refine below_set ?_ GE484.out) | exact HB.out)) hb); clear HO_5; clear BK470; clear BK484; clear HB; have HO_5 := n0_; have HO492 := n1_; have BK470 := n2_; have BK484 := n3_; have HB := n4_; clear n0_ n1_ n2_ n3_ n4_; (try clear hb)
                  (try clear hb2)
                  (try clear hk)
                  (try clear hi)
                  (try clear ho0)
                  refine hK.out _ _ ⟨(blk_cell BK484.out 0).trans rfl, (blk_cell BK484.out 1).trans rfl, (blk_cell BK484.out 2).trans rfl, (blk_cell BK484.out 3).trans rfl, (blk_cell BK484.out 4).trans rfl⟩ (fun hHeld => ?_); clear hK K; refine norm_ (a' := ?_) ?_ ?_; rotate_left
                  ·show Act.put _ (some 82) _ = _
                   simp only [Act.put, sqA, sqB, sqC, i64_w, i32_w]; rfl
                  refine one_ (i := 7) (N := some 86) #[yT,yT,yT,yT,yT,yT,yT,yT,nF,nF] rfl rfl (one_of HT_.out (by kernel_rfl)) (by decide) (fun K hK => ?_); refine goes_ Try.func15 (by kernel_rfl) rfl #[.slice Ao24 t473.length co24, .int .i64 ((rd_T26 l0 x34_1).f0)] (by rfl) rfl rfl (by (try simp only [List.map_toArray, List.map_cons, List.map_nil]); first | done | rfl | (simp only [List.length_drop, List.length_take]; rfl)) ?_; with_reducible refine (waiting_Of.calls kj36 _ _ t473 ((rd_T26 l0 x34_1).f0) t493 _ ?side1 ?side2 A42.out).mono ?_
                  (case side1 => repeat (first | exact (Kd.R_reads' HO_5.out).2.2 | (with_reducible refine Kd.C_alloc ?_ _) | (with_reducible refine Kd.C_drewN ?_ _) | (with_reducible refine Kd.C_drew ?_)))
                  (case side2 => exact (Kd.R_reads' HO_5.out).2.1)
                  rintro e w54 ⟨v494, rfl, ho0, hb⟩; refine ⟨_, rfl, ?_⟩; have n0_ := Aside0.mk (Kd.R_below (by (with_reducible repeat (first | apply Kd.R_alloc | apply Kd.R_drewN | apply Kd.R_drew)); exact HO_5.out) hb); have n1_ := Aside0.mk (Kd.R_elder' (by (with_reducible repeat (first | apply Kd.R_alloc | apply Kd.R_drewN | apply Kd.R_drew)); exact HO492.out) (Kd.R_base ho0) hb); have n2_ := Aside0.mk (Kd.R_lower (Kd.R_new' ho0 (Kd.R_lt (by (with_reducible repeat (first | apply Kd.R_alloc | apply Kd.R_drewN | apply Kd.R_drew)); exact HO492.out))) (below_size (by repeat (first | (with_reducible first | exact HB.out | apply below_alloc | apply pw_below_drewN | apply below_drew1 | refine below_set ?_ GE470.out | refine below_set ?_ GE484.out) | exact HB.out)))); have n3_ := Aside0.mk (blk_below (g := gb470) (o := .cells #[.int .i64 a1_0, .int .i64 a1_1, .int .i64 a1_2, .int .i64 a1_3, .int .i64 a1_4] 26 (0, 0)) (by (with_reducible repeat (first | refine blk_drewN ?_ _ | refine blk_drew ?_ | refine blk_alloc ?_ _)); exact BK470.out) hb); have n4_ := Aside0.mk (blk_below (g := gb484) (o := .cells #[.int .i64 ((rd_T26 l0 x34_1).f0), .int .i64 ((rd_T26 l0 x34_1).f1.f0), .int .i64 ((rd_T26 l0 x34_1).f1.f1), .int .i64 ((rd_T26 l0 x34_1).f2), .int .i64 ((rd_T26 l0 x34_1).f3)] 26 (0, 0)) (by (with_reducible repeat (first | refine blk_drewN ?_ _ | refine blk_drew ?_ | refine blk_alloc ?_ _)); exact BK484.out) hb); have n5_ := Aside0.mk (below_step (by repeat (first | (with_reducible first | exact HB.out | apply below_alloc | apply pw_below_drewN | apply below_drew1 | refine below_set ?_ GE470.out | refine below_set ?_ GE484.out) | exact HB.out)) hb); clear HO_5; clear HO492; clear BK470; clear BK484; clear HB; have HO_5 := n0_; have HO492 := n1_; have HO495 := n2_; have BK470 := n3_; have BK484 := n4_; have HB := n5_; clear n0_ n1_ n2_ n3_ n4_ n5_; (try clear hb)
                  (try clear hb2)
                  (try clear hk)
                  (try clear hi)
                  (try clear ho0)
                  refine hK.out _ _ ⟨(blk_cell BK484.out 0).trans rfl, (blk_cell BK484.out 1).trans rfl, (blk_cell BK484.out 2).trans rfl, (blk_cell BK484.out 3).trans rfl, (blk_cell BK484.out 4).trans rfl⟩ (fun hHeld => ?_); clear hK K; refine norm_ (a' := ?_) ?_ ?_; rotate_left
                  ·show Act.put _ (some 86) _ = _
                   simp only [Act.put, sqA, sqB, sqC, i64_w, i32_w]; rfl
                  refine pure_ (i := 8) (N := some 14) (v := ?_) (a' := ?_) #[yT,yT,yT,yT,yT,yT,yT,yT,yT,nF] rfl rfl (any_of HT_.out (by kernel_rfl)) (fun _ _ _ h => h) (Or.inl ⟨by rfl, ?_⟩) ?_ ?_; rotate_left; (intro w'; go_simp; with_reducible rfl); rotate_left; (simp only [Act.put, sqA, sqB, sqC, i64_w, i32_w]; rfl); refine pure_ (i := 9) (N := some 15) (v := ?_) (a' := ?_) #[yT,yT,yT,yT,yT,yT,yT,yT,yT,yT] rfl rfl (any_of HT_.out (by kernel_rfl)) (fun _ _ _ h => h) (Or.inl ⟨by rfl, ?_⟩) ?_ ?_; rotate_left; (intro w'; go_simp; with_reducible rfl); rotate_left; (simp only [Act.put, sqA, sqB, sqC, i64_w, i32_w]; rfl); refine done_ (done_of HT_.out (by kernel_rfl)) ?_; have hnb55 := NB484_470.out; have hnc55 := NB470_484.out; have hcz56_0 : w54.cell? ⟨gb484, 0, none⟩ = some (.int .i64 ((rd_T26 l0 x34_1).f0)) := (blk_cell BK484.out 0).trans rfl; have hcz56_1 : w54.cell? ⟨gb484, 1, none⟩ = some (.int .i64 ((rd_T26 l0 x34_1).f1.f0)) := (blk_cell BK484.out 1).trans rfl; have hcz56_2 : w54.cell? ⟨gb484, 2, none⟩ = some (.int .i64 ((rd_T26 l0 x34_1).f1.f1)) := (blk_cell BK484.out 2).trans rfl; have hcz56_3 : w54.cell? ⟨gb484, 3, none⟩ = some (.int .i64 ((rd_T26 l0 x34_1).f2)) := (blk_cell BK484.out 3).trans rfl; have hcz56_4 : w54.cell? ⟨gb484, 4, none⟩ = some (.int .i64 ((rd_T26 l0 x34_1).f3)) := (blk_cell BK484.out 4).trans rfl; have hfz56_0 := blk_frozen BK484.out 0; have hfz56_1 := blk_frozen BK484.out 1; have hfz56_2 := blk_frozen BK484.out 2; have hfz56_3 := blk_frozen BK484.out 3; have hfz56_4 := blk_frozen BK484.out 4; have hcz57_0 : w54.cell? ⟨gb470, 0, none⟩ = some (.int .i64 a1_0) := (blk_cell BK470.out 0).trans rfl; have hcz57_1 : w54.cell? ⟨gb470, 1, none⟩ = some (.int .i64 a1_1) := (blk_cell BK470.out 1).trans rfl; have hcz57_2 : w54.cell? ⟨gb470, 2, none⟩ = some (.int .i64 a1_2) := (blk_cell BK470.out 2).trans rfl; have hcz57_3 : w54.cell? ⟨gb470, 3, none⟩ = some (.int .i64 a1_3) := (blk_cell BK470.out 3).trans rfl; have hcz57_4 : w54.cell? ⟨gb470, 4, none⟩ = some (.int .i64 a1_4) := (blk_cell BK470.out 4).trans rfl; have hfz57_0 := blk_frozen BK470.out 0; have hfz57_1 := blk_frozen BK470.out 1; have hfz57_2 := blk_frozen BK470.out 2; have hfz57_3 := blk_frozen BK470.out 3; have hfz57_4 := blk_frozen BK470.out 4; obtain ⟨Ao58, co58, eo58⟩ := Kd.R_slice HO492.out; subst eo58; obtain ⟨Ao59, co59, eo59⟩ := Kd.R_slice HO495.out; subst eo59
                  try go_wp2_with (first | (go_at_call 16; (with_reducible refine (sizarref26_SameBundles.calls kj36 _ _ t490 _ _ t493 true _ ?side1 ?side2 ?side3 ?side4 A50.out).mono ?_); (case side1 => repeat (first | exact (Kd.R_reads' HO492.out).2.2 | (with_reducible refine Kd.C_alloc ?_ _) | (with_reducible refine Kd.C_drewN ?_ _) | (with_reducible refine Kd.C_drew ?_))); (case side2 => exact (Kd.R_reads' HO492.out).2.1); (case side3 => repeat (first | exact (Kd.R_reads' HO495.out).2.2 | (with_reducible refine Kd.C_alloc ?_ _) | (with_reducible refine Kd.C_drewN ?_ _) | (with_reducible refine Kd.C_drew ?_))); (case side4 => exact (Kd.R_reads' HO495.out).2.1); rintro e w' ⟨rfl, ⟨nd, rfl⟩⟩))
                  go_roundg kj36
                  case measure => have := HK1.out; have := HJ17.out; have := HJ34.out; have := HJ36.out; omega
                  case rel => exact ⟨(wrap64 (x34_1 + 1)), (by first | rfl | (simp; done) | (simp [*]; done)), H', ⟨by have := HK1.out; have := HJ17.out; have := HJ34.out; have := HJ36.out; omega⟩, ⟨by (with_reducible repeat (first | apply Kd.R_alloc | apply Kd.R_drewN | apply Kd.R_drew)); exact Kd.R_mono HO_5.out (fun _ hk => hk.1)⟩, ⟨by (with_reducible repeat (first | refine blk_drewN ?_ _ | refine blk_drew ?_ | refine blk_alloc ?_ _)); exact BK470.out⟩, ⟨by repeat (first | (with_reducible first | exact HB.out | apply below_alloc | apply pw_below_drewN | apply below_drew1 | refine below_set ?_ GE470.out | refine below_set ?_ GE484.out) | exact HB.out)⟩⟩
                 ·replace c51 := Bool.eq_false_iff.mpr c51; subst c51; have H1 : (none) = some r := by rw [if_neg (show ¬ (false = true) by decide)] at H; exact H
                  clear H; have H := H1; clear H1; exact absurd H (by simp)
        (rw [if_neg c15] at H; exact absurd H (by simp))
       (rw [if_neg c14] at H; exact absurd H (by simp))
      ·rw [if_neg c13] at H; have c13b0 : decide (x34_1 < (l0.length : Int)) = false := decide_eq_false c13; clear c13; replace H := Option.bind_eq_some_iff.mp H; obtain ⟨t477, A600, H⟩ := H; replace H : ((waiting_Of.f k1 l0 a1_0).bind fun t480 => (some ((t477.length : Int) == (wrap64 ((t480.length : Int) + 1))))) = some r := H; have A60 := Aside0.mk A600; clear A600; replace H := Option.bind_eq_some_iff.mp H; obtain ⟨t480, A610, H⟩ := H; replace H : (some ((t477.length : Int) == (wrap64 ((t480.length : Int) + 1)))) = some r := H; have A61 := Aside0.mk A610; clear A610; obtain rfl := Option.some.inj H
       try go_wp2
       have n0_ := Aside0.mk (Kd.R_drew HO_5.out); have n1_ := Aside0.mk (blk_drew BK470.out); have n2_ := Aside0.mk (below_drew1 HB.out); clear HO_5; clear BK470; clear HB; have HO_5 := n0_; have BK470 := n1_; have HB := n2_; clear n0_ n1_ n2_; obtain ⟨Ao63, co63, eo63⟩ := Kd.R_slice HO_5.out; (first | subst eo63 | (injection eo63 with f1_ f2_ f3_; have f4_ := f1_.symm; have f5_ := f3_.symm; clear f1_ f2_ f3_; subst f4_; subst f5_))
       refine start_ (n := 13) (S := fun w' => w'.cell? ⟨gb470, 0, none⟩ = some (.int .i64 a1_0) ∧ w'.cell? ⟨gb470, 1, none⟩ = some (.int .i64 a1_1) ∧ w'.cell? ⟨gb470, 2, none⟩ = some (.int .i64 a1_2) ∧ w'.cell? ⟨gb470, 3, none⟩ = some (.int .i64 a1_3) ∧ w'.cell? ⟨gb470, 4, none⟩ = some (.int .i64 a1_4)) (ds := []) #[nF,nF,nF,nF,nF,nF,nF,nF,nF,nF,nF,nF,nF] (by kernel_rfl) rfl rfl ⟨(blk_cell BK470.out 0).trans rfl, (blk_cell BK470.out 1).trans rfl, (blk_cell BK470.out 2).trans rfl, (blk_cell BK470.out 3).trans rfl, (blk_cell BK470.out 4).trans rfl⟩ (fun hHeld => ?_); refine with_tabW sizarlaw26_WaitingOthers.tab22 sizarlaw26_WaitingOthers.bits22 (fun HT_ HW_ => ?_); generalize wr.drew = w62 at HO_5 BK470 HB hHeld ⊢; refine pure_ (i := 0) (N := some 99) (v := ?_) (a' := ?_) #[yT,nF,nF,nF,nF,nF,nF,nF,nF,nF,nF,nF,nF] rfl rfl (any_of HT_.out (by kernel_rfl)) (fun _ _ _ h => h) (Or.inl ⟨by rfl, ?_⟩) ?_ ?_; rotate_left; (intro w'; go_simp; with_reducible rfl); rotate_left; (simp only [Act.put, sqA, sqB, sqC, i64_w, i32_w]; rfl); refine pure_ (i := 1) (N := some 100) (v := ?_) (a' := ?_) #[yT,yT,nF,nF,nF,nF,nF,nF,nF,nF,nF,nF,nF] rfl rfl (any_of HT_.out (by kernel_rfl)) (fun _ _ _ h => h) (Or.inl ⟨by rfl, ?_⟩) ?_ ?_; rotate_left; (intro w'; go_simp; with_reducible rfl); rotate_left; (simp only [Act.put, sqA, sqB, sqC, i64_w, i32_w]; rfl); refine pure_ (i := 5) (N := some 104) (v := ?_) (a' := ?_) #[yT,yT,nF,nF,nF,yT,nF,nF,nF,nF,nF,nF,nF] rfl rfl (any_of HT_.out (by kernel_rfl)) (fun _ _ _ h => h) (Or.inl ⟨by rfl, ?_⟩) ?_ ?_; rotate_left; (intro w'; go_simp; with_reducible rfl); rotate_left; (simp only [Act.put, sqA, sqB, sqC, i64_w, i32_w]; rfl); refine pure_ (i := 6) (N := some 105) (v := ?_) (a' := ?_) #[yT,yT,nF,nF,nF,yT,yT,nF,nF,nF,nF,nF,nF] rfl rfl (any_of HT_.out (by kernel_rfl)) (fun _ _ _ h => h) (Or.inl ⟨by rfl, ?_⟩) ?_ ?_; rotate_left; (intro w'; go_simp; with_reducible rfl); rotate_left; (simp only [Act.put, sqA, sqB, sqC, i64_w, i32_w]; rfl); refine take_ (i := 2) (N := some 101) (v := ?_) (a' := ?_) #[yT,yT,yT,nF,nF,yT,yT,nF,nF,nF,nF,nF,nF] rfl rfl (take_ofW HT_.out HW_.out (by kernel_rfl)) (fun _ _ _ h => h) (Or.inl ⟨by rfl, ?_⟩) hHeld ?_ ?_; rotate_left; (rintro w' ⟨s0, s1, s2, s3, s4⟩; go_simp; with_reducible rfl); rotate_left; (simp only [Act.put, sqA, sqB, sqC, i64_w, i32_w]; rfl); refine take_ (i := 7) (N := some 106) (v := ?_) (a' := ?_) #[yT,yT,yT,nF,nF,yT,yT,yT,nF,nF,nF,nF,nF] rfl rfl (take_ofW HT_.out HW_.out (by kernel_rfl)) (fun _ _ _ h => h) (Or.inl ⟨by rfl, ?_⟩) hHeld ?_ ?_; rotate_left; (rintro w' ⟨s0, s1, s2, s3, s4⟩; go_simp; with_reducible rfl); rotate_left; (simp only [Act.put, sqA, sqB, sqC, i64_w, i32_w]; rfl); refine one_ (i := 3) (N := some 102) #[yT,yT,yT,yT,nF,yT,yT,yT,nF,nF,nF,nF,nF] rfl rfl (one_of HT_.out (by kernel_rfl)) (by decide) (fun K hK => ?_); refine goes_ Try.func15 (by kernel_rfl) rfl #[.slice Ao63 t473.length co63, .int .i64 a1_0] (by rfl) rfl rfl (by (try simp only [List.map_toArray, List.map_cons, List.map_nil]); first | done | rfl | (simp only [List.length_drop, List.length_take]; rfl)) ?_; with_reducible refine (waiting_Of.calls k1 _ _ t473 a1_0 t477 _ ?side1 ?side2 A60.out).mono ?_
       (case side1 => repeat (first | exact (Kd.R_reads' HO_5.out).2.2 | (with_reducible refine Kd.C_alloc ?_ _) | (with_reducible refine Kd.C_drewN ?_ _) | (with_reducible refine Kd.C_drew ?_)))
       (case side2 => exact (Kd.R_reads' HO_5.out).2.1)
       rintro e w64 ⟨v478, rfl, ho0, hb⟩; refine ⟨_, rfl, ?_⟩; have n0_ := Aside0.mk (Kd.R_below (by (with_reducible repeat (first | apply Kd.R_alloc | apply Kd.R_drewN | apply Kd.R_drew)); exact HO_5.out) hb); have n1_ := Aside0.mk (Kd.R_lower ho0 (below_size (by repeat (first | (with_reducible first | exact HB.out | apply below_alloc | apply pw_below_drewN | apply below_drew1 | refine below_set ?_ GE470.out) | exact HB.out)))); have n2_ := Aside0.mk (blk_below (g := gb470) (o := .cells #[.int .i64 a1_0, .int .i64 a1_1, .int .i64 a1_2, .int .i64 a1_3, .int .i64 a1_4] 26 (0, 0)) (by (with_reducible repeat (first | refine blk_drewN ?_ _ | refine blk_drew ?_ | refine blk_alloc ?_ _)); exact BK470.out) hb); have n3_ := Aside0.mk (below_step (by repeat (first | (with_reducible first | exact HB.out | apply below_alloc | apply pw_below_drewN | apply below_drew1 | refine below_set ?_ GE470.out) | exact HB.out)) hb); clear HO_5; clear BK470; clear HB; have HO_5 := n0_; have HO479 := n1_; have BK470 := n2_; have HB := n3_; clear n0_ n1_ n2_ n3_; (try clear hb)
       (try clear hb2)
       (try clear hk)
       (try clear hi)
       (try clear ho0)
       obtain ⟨Ao65, co65, eo65⟩ := Kd.R_slice HO479.out; (first | subst eo65 | (injection eo65 with f1_ f2_ f3_; have f4_ := f1_.symm; have f5_ := f3_.symm; clear f1_ f2_ f3_; subst f4_; subst f5_))
       refine hK.out _ _ ⟨(blk_cell BK470.out 0).trans rfl, (blk_cell BK470.out 1).trans rfl, (blk_cell BK470.out 2).trans rfl, (blk_cell BK470.out 3).trans rfl, (blk_cell BK470.out 4).trans rfl⟩ (fun hHeld => ?_); clear hK K; refine norm_ (a' := ?_) ?_ ?_; rotate_left
       ·show Act.put _ (some 102) _ = _
        simp only [Act.put, sqA, sqB, sqC, i64_w, i32_w]; rfl
       refine pure_ (i := 4) (N := some 103) (v := ?_) (a' := ?_) #[yT,yT,yT,yT,yT,yT,yT,yT,nF,nF,nF,nF,nF] rfl rfl (any_of HT_.out (by kernel_rfl)) (fun _ _ _ h => h) (Or.inl ⟨by rfl, ?_⟩) ?_ ?_; rotate_left; (intro w'; go_simp; with_reducible rfl); rotate_left; (simp only [Act.put, sqA, sqB, sqC, i64_w, i32_w]; rfl); refine one_ (i := 8) (N := some 107) #[yT,yT,yT,yT,yT,yT,yT,yT,yT,nF,nF,nF,nF] rfl rfl (one_of HT_.out (by kernel_rfl)) (by decide) (fun K hK => ?_); refine goes_ Try.func15 (by kernel_rfl) rfl #[.slice A0 l0.length c0, .int .i64 a1_0] (by rfl) rfl rfl (by (try simp only [List.map_toArray, List.map_cons, List.map_nil]); first | done | rfl | (simp only [List.length_drop, List.length_take]; rfl)) ?_; with_reducible refine (waiting_Of.calls k1 _ _ l0 a1_0 t480 _ ?side1 ?side2 A61.out).mono ?_
       (case side1 => repeat (first | exact (Kd.C_below HR0.out HB.out) | (with_reducible refine Kd.C_alloc ?_ _) | (with_reducible refine Kd.C_drewN ?_ _) | (with_reducible refine Kd.C_drew ?_)))
       (case side2 => exact HC0.out)
       rintro e w66 ⟨v481, rfl, ho0, hb⟩; refine ⟨_, rfl, ?_⟩; have n0_ := Aside0.mk (Kd.R_below (by (with_reducible repeat (first | apply Kd.R_alloc | apply Kd.R_drewN | apply Kd.R_drew)); exact HO_5.out) hb); have n1_ := Aside0.mk (Kd.R_elder' (by (with_reducible repeat (first | apply Kd.R_alloc | apply Kd.R_drewN | apply Kd.R_drew)); exact HO479.out) (Kd.R_base ho0) hb); have n2_ := Aside0.mk (Kd.R_lower (Kd.R_new' ho0 (Kd.R_lt (by (with_reducible repeat (first | apply Kd.R_alloc | apply Kd.R_drewN | apply Kd.R_drew)); exact HO479.out))) (below_size (by repeat (first | (with_reducible first | exact HB.out | apply below_alloc | apply pw_below_drewN | apply below_drew1 | refine below_set ?_ GE470.out) | exact HB.out)))); have n3_ := Aside0.mk (blk_below (g := gb470) (o := .cells #[.int .i64 a1_0, .int .i64 a1_1, .int .i64 a1_2, .int .i64 a1_3, .int .i64 a1_4] 26 (0, 0)) (by (with_reducible repeat (first | refine blk_drewN ?_ _ | refine blk_drew ?_ | refine blk_alloc ?_ _)); exact BK470.out) hb); have n4_ := Aside0.mk (below_step (by repeat (first | (with_reducible first | exact HB.out | apply below_alloc | apply pw_below_drewN | apply below_drew1 | refine below_set ?_ GE470.out) | exact HB.out)) hb); clear HO_5; clear HO479; clear BK470; clear HB; have HO_5 := n0_; have HO479 := n1_; have HO482 := n2_; have BK470 := n3_; have HB := n4_; clear n0_ n1_ n2_ n3_ n4_; (try clear hb)
       (try clear hb2)
       (try clear hk)
       (try clear hi)
       (try clear ho0)
       obtain ⟨Ao67, co67, eo67⟩ := Kd.R_slice HO482.out; (first | subst eo67 | (injection eo67 with f1_ f2_ f3_; have f4_ := f1_.symm; have f5_ := f3_.symm; clear f1_ f2_ f3_; subst f4_; subst f5_))
       refine hK.out _ _ ⟨(blk_cell BK470.out 0).trans rfl, (blk_cell BK470.out 1).trans rfl, (blk_cell BK470.out 2).trans rfl, (blk_cell BK470.out 3).trans rfl, (blk_cell BK470.out 4).trans rfl⟩ (fun hHeld => ?_); clear hK K; refine norm_ (a' := ?_) ?_ ?_; rotate_left
       ·show Act.put _ (some 107) _ = _
        simp only [Act.put, sqA, sqB, sqC, i64_w, i32_w]; rfl
       refine pure_ (i := 9) (N := some 108) (v := ?_) (a' := ?_) #[yT,yT,yT,yT,yT,yT,yT,yT,yT,yT,nF,nF,nF] rfl rfl (any_of HT_.out (by kernel_rfl)) (fun _ _ _ h => h) (Or.inl ⟨by rfl, ?_⟩) ?_ ?_; rotate_left; (intro w'; go_simp; with_reducible rfl); rotate_left; (simp only [Act.put, sqA, sqB, sqC, i64_w, i32_w]; rfl); refine pure_ (i := 10) (N := some 109) (v := ?_) (a' := ?_) #[yT,yT,yT,yT,yT,yT,yT,yT,yT,yT,yT,nF,nF] rfl rfl (any_of HT_.out (by kernel_rfl)) (fun _ _ _ h => h) (Or.inl ⟨by rfl, ?_⟩) ?_ ?_; rotate_left; (intro w'; go_simp; with_reducible rfl); rotate_left; (simp only [Act.put, sqA, sqB, sqC, i64_w, i32_w]; rfl); refine pure_ (i := 11) (N := some 110) (v := ?_) (a' := ?_) #[yT,yT,yT,yT,yT,yT,yT,yT,yT,yT,yT,yT,nF] rfl rfl (any_of HT_.out (by kernel_rfl)) (fun _ _ _ h => h) (Or.inl ⟨by rfl, ?_⟩) ?_ ?_; rotate_left; (intro w'; go_simp; with_reducible rfl); rotate_left; (simp only [Act.put, sqA, sqB, sqC, i64_w, i32_w]; rfl); refine pure_ (i := 12) (N := some 4) (v := ?_) (a' := ?_) #[yT,yT,yT,yT,yT,yT,yT,yT,yT,yT,yT,yT,yT] rfl rfl (any_of HT_.out (by kernel_rfl)) (fun _ _ _ h => h) (Or.inl ⟨by rfl, ?_⟩) ?_ ?_; rotate_left; (intro w'; go_simp; with_reducible rfl); rotate_left; (simp only [Act.put, sqA, sqB, sqC, i64_w, i32_w]; rfl); refine done_ (done_of HT_.out (by kernel_rfl)) ?_
       try go_wp2
       go_ret; exact ⟨by first | rfl | (simp [errW_none, errW_some] <;> rfl) | (simp [*, errW_none, errW_some] <;> rfl), by repeat (first | (with_reducible first | exact HB.out | apply below_alloc | apply pw_below_drewN | apply below_drew1 | refine below_set ?_ GE470.out) | exact HB.out)⟩
   ·rw [if_neg c8] at H; have c8b0 : (t476 == 0) = false := beq_eq_false_iff_ne.mpr c8; have c8b1 : (t476 != 0) = true := bne_iff_ne.mpr c8; obtain rfl := Option.some.inj H; go_enter Try.func3, Try.ntmps3; go_wp2_with (first | ((with_reducible refine gate_dst (N := 3) rfl ?_); refine box_event ?hg (N := 3) ?hd (cs := #[.int .i64 a1_0, .int .i64 a1_1, .int .i64 a1_2, .int .i64 a1_3, .int .i64 a1_4]) (t := 26) ?hr ?_; (case hd => rfl); (case hg => rfl); (case hr => first | (go_simp; done) | (go_simp; rfl)); intro gb470 hg w68 hbox hb; have n0_ := Aside0.mk (below_step (by repeat (first | (with_reducible first | exact HB.out | apply below_alloc | apply pw_below_drewN | apply below_drew1) | exact HB.out)) hb); have n1_ := Aside0.mk (hbox); have n2_ := Aside0.mk ((by rw [hg]; exact (below_size (by repeat (first | (with_reducible first | exact HB.out | apply below_alloc | apply pw_below_drewN | apply below_drew1) | exact HB.out))) : w.heap.size ≤ gb470)); have n3_ := Aside0.mk ((by rw [hg]; exact (below_size (by repeat (first | (with_reducible first | exact HB.out | apply below_alloc | apply pw_below_drewN | apply below_drew1) | exact HB.out))) : w.heap.size ≤ gb470)); clear HB; have HB := n0_; have BK470 := n1_; have GW470 := n2_; have GE470 := n3_; clear n0_ n1_ n2_ n3_; clear hb hbox hg) | ((with_reducible refine gate_callee (f := 10) rfl ?_); refine goesL_ (some 16) rfl rfl Try.func10 (by kernel_rfl) rfl #[] rfl (by (try simp only [List.map_toArray, List.map_cons, List.map_nil]); first | done | rfl | (simp only [List.length_drop, List.length_take]; rfl)) ?_; (with_reducible refine (sizarlaw26_sane.calls k  true _ A3.out).mono ?_); rintro e w69 ⟨rfl, hb⟩; refine ⟨_, rfl, ?_⟩; have n0_ := Aside0.mk (blk_below (g := gb470) (o := .cells #[.int .i64 a1_0, .int .i64 a1_1, .int .i64 a1_2, .int .i64 a1_3, .int .i64 a1_4] 26 (0, 0)) (by (with_reducible repeat (first | refine blk_drewN ?_ _ | refine blk_drew ?_ | refine blk_alloc ?_ _)); exact BK470.out) hb); have n1_ := Aside0.mk (below_step (by repeat (first | (with_reducible first | exact HB.out | apply below_alloc | apply pw_below_drewN | apply below_drew1 | refine below_set ?_ GE470.out) | exact HB.out)) hb); clear BK470; clear HB; have BK470 := n0_; have HB := n1_; clear n0_ n1_; (try clear hb); (try clear hb2); (try clear hk); (try clear hi)) | ((with_reducible refine gate_callee (f := 11) rfl ?_); refine goesL_ (some 19) rfl rfl Try.func11 (by kernel_rfl) rfl #[.slice A0 l0.length c0] rfl (by (try simp only [List.map_toArray, List.map_cons, List.map_nil]); first | done | rfl | (simp only [List.length_drop, List.length_take]; rfl)) ?_; (with_reducible refine (sizarref26_Few.calls _ _ l0 true _ ?side1 ?side2 A5.out).mono ?_); (case side1 => repeat (first | exact (Kd.C_below HR0.out HB.out) | (with_reducible refine Kd.C_alloc ?_ _) | (with_reducible refine Kd.C_drewN ?_ _) | (with_reducible refine Kd.C_drew ?_))); (case side2 => exact HC0.out); rintro e w' ⟨rfl, ⟨nd, rfl⟩⟩; refine ⟨_, rfl, ?_⟩; have hcz70_0 : w69.cell? ⟨gb470, 0, none⟩ = some (.int .i64 a1_0) := (blk_cell BK470.out 0).trans rfl; have hcz70_1 : w69.cell? ⟨gb470, 1, none⟩ = some (.int .i64 a1_1) := (blk_cell BK470.out 1).trans rfl; have hcz70_2 : w69.cell? ⟨gb470, 2, none⟩ = some (.int .i64 a1_2) := (blk_cell BK470.out 2).trans rfl; have hcz70_3 : w69.cell? ⟨gb470, 3, none⟩ = some (.int .i64 a1_3) := (blk_cell BK470.out 3).trans rfl; have hcz70_4 : w69.cell? ⟨gb470, 4, none⟩ = some (.int .i64 a1_4) := (blk_cell BK470.out 4).trans rfl; have hfz70_0 := blk_frozen BK470.out 0; have hfz70_1 := blk_frozen BK470.out 1; have hfz70_2 := blk_frozen BK470.out 2; have hfz70_3 := blk_frozen BK470.out 3; have hfz70_4 := blk_frozen BK470.out 4) | ((with_reducible refine gate_callee (f := 12) rfl ?_); refine goesL_ (some 24) rfl rfl Try.func12 (by kernel_rfl) rfl #[.slice A0 l0.length c0, .agg #[.int .i64 a1_0, .int .i64 a1_1, .int .i64 a1_2, .int .i64 a1_3, .int .i64 a1_4]] rfl (by (try simp only [List.map_toArray, List.map_cons, List.map_nil]); first | done | rfl | (simp only [List.length_drop, List.length_take]; rfl)) ?_; (with_reducible refine (waiting_Join.calls k _ _ l0 a1_0 a1_1 a1_2 a1_3 a1_4 t473 t476 _ ?side1 ?side2 A7.out).mono ?_); (case side1 => repeat (first | exact (Kd.C_below HR0.out (by repeat (first | (with_reducible first | exact HB.out | apply below_alloc | apply pw_below_drewN | apply below_drew1 | refine below_set ?_ GE470.out) | exact HB.out))) | (with_reducible refine Kd.C_alloc ?_ _) | (with_reducible refine Kd.C_drewN ?_ _) | (with_reducible refine Kd.C_drew ?_))); (case side2 => exact HC0.out); rintro e w71 ⟨v474, rfl, ho0, hb⟩; refine ⟨_, rfl, ?_⟩; have n0_ := Aside0.mk (Kd.R_lower (Kd.R_newB ho0 (g := gb470) (o := .cells #[.int .i64 a1_0, .int .i64 a1_1, .int .i64 a1_2, .int .i64 a1_3, .int .i64 a1_4] 26 (0, 0)) (by (with_reducible repeat (first | refine blk_drewN ?_ _ | refine blk_drew ?_ | refine blk_alloc ?_ _)); exact BK470.out)) (below_size (by repeat (first | (with_reducible first | exact HB.out | apply below_alloc | apply pw_below_drewN | apply below_drew1 | refine below_set ?_ GE470.out) | exact HB.out)))); have n1_ := Aside0.mk (blk_below (g := gb470) (o := .cells #[.int .i64 a1_0, .int .i64 a1_1, .int .i64 a1_2, .int .i64 a1_3, .int .i64 a1_4] 26 (0, 0)) (by (with_reducible repeat (first | refine blk_drewN ?_ _ | refine blk_drew ?_ | refine blk_alloc ?_ _)); exact BK470.out) hb); have n2_ := Aside0.mk (below_step (by repeat (first | (with_reducible first | exact HB.out | apply below_alloc | apply pw_below_drewN | apply below_drew1 | refine below_set ?_ GE470.out) | exact HB.out)) hb); clear BK470; clear HB; have HO475 := n0_; have BK470 := n1_; have HB := n2_; clear n0_ n1_ n2_; (try clear hb); (try clear hb2); (try clear hk); (try clear hi); (try clear ho0); obtain ⟨Ao72, co72, eo72⟩ := Kd.R_slice HO475.out; subst eo72))
    go_ret; exact ⟨by first | rfl | (simp [errW_none, errW_some] <;> rfl) | (simp [*, errW_none, errW_some] <;> rfl), by repeat (first | (with_reducible first | exact HB.out | apply below_alloc | apply pw_below_drewN | apply below_drew1 | refine below_set ?_ GE470.out) | exact HB.out)⟩
  ·replace c6 := Bool.eq_false_iff.mpr c6; subst c6; have H1 : (some true) = some r := by rw [if_neg (show ¬ (false = true) by decide)] at H; exact H
   clear H; have H := H1; clear H1; obtain rfl := Option.some.inj H; go_enter Try.func3, Try.ntmps3; go_wp2_with (first | ((with_reducible refine gate_dst (N := 3) rfl ?_); refine box_event ?hg (N := 3) ?hd (cs := #[.int .i64 a1_0, .int .i64 a1_1, .int .i64 a1_2, .int .i64 a1_3, .int .i64 a1_4]) (t := 26) ?hr ?_; (case hd => rfl); (case hg => rfl); (case hr => first | (go_simp; done) | (go_simp; rfl)); intro gb470 hg w73 hbox hb; have n0_ := Aside0.mk (below_step (by repeat (first | (with_reducible first | exact HB.out | apply below_alloc | apply pw_below_drewN | apply below_drew1) | exact HB.out)) hb); have n1_ := Aside0.mk (hbox); have n2_ := Aside0.mk ((by rw [hg]; exact (below_size (by repeat (first | (with_reducible first | exact HB.out | apply below_alloc | apply pw_below_drewN | apply below_drew1) | exact HB.out))) : w.heap.size ≤ gb470)); have n3_ := Aside0.mk ((by rw [hg]; exact (below_size (by repeat (first | (with_reducible first | exact HB.out | apply below_alloc | apply pw_below_drewN | apply below_drew1) | exact HB.out))) : w.heap.size ≤ gb470)); clear HB; have HB := n0_; have BK470 := n1_; have GW470 := n2_; have GE470 := n3_; clear n0_ n1_ n2_ n3_; clear hb hbox hg) | ((with_reducible refine gate_callee (f := 10) rfl ?_); refine goesL_ (some 16) rfl rfl Try.func10 (by kernel_rfl) rfl #[] rfl (by (try simp only [List.map_toArray, List.map_cons, List.map_nil]); first | done | rfl | (simp only [List.length_drop, List.length_take]; rfl)) ?_; (with_reducible refine (sizarlaw26_sane.calls k  true _ A3.out).mono ?_); rintro e w74 ⟨rfl, hb⟩; refine ⟨_, rfl, ?_⟩; have n0_ := Aside0.mk (blk_below (g := gb470) (o := .cells #[.int .i64 a1_0, .int .i64 a1_1, .int .i64 a1_2, .int .i64 a1_3, .int .i64 a1_4] 26 (0, 0)) (by (with_reducible repeat (first | refine blk_drewN ?_ _ | refine blk_drew ?_ | refine blk_alloc ?_ _)); exact BK470.out) hb); have n1_ := Aside0.mk (below_step (by repeat (first | (with_reducible first | exact HB.out | apply below_alloc | apply pw_below_drewN | apply below_drew1 | refine below_set ?_ GE470.out) | exact HB.out)) hb); clear BK470; clear HB; have BK470 := n0_; have HB := n1_; clear n0_ n1_; (try clear hb); (try clear hb2); (try clear hk); (try clear hi)) | ((with_reducible refine gate_callee (f := 11) rfl ?_); refine goesL_ (some 19) rfl rfl Try.func11 (by kernel_rfl) rfl #[.slice A0 l0.length c0] rfl (by (try simp only [List.map_toArray, List.map_cons, List.map_nil]); first | done | rfl | (simp only [List.length_drop, List.length_take]; rfl)) ?_; (with_reducible refine (sizarref26_Few.calls _ _ l0 false _ ?side1 ?side2 A5.out).mono ?_); (case side1 => repeat (first | exact (Kd.C_below HR0.out HB.out) | (with_reducible refine Kd.C_alloc ?_ _) | (with_reducible refine Kd.C_drewN ?_ _) | (with_reducible refine Kd.C_drew ?_))); (case side2 => exact HC0.out); rintro e w' ⟨rfl, ⟨nd, rfl⟩⟩; refine ⟨_, rfl, ?_⟩))
   go_ret; exact ⟨by first | rfl | (simp [errW_none, errW_some] <;> rfl) | (simp [*, errW_none, errW_some] <;> rfl), by repeat (first | (with_reducible first | exact HB.out | apply below_alloc | apply pw_below_drewN | apply below_drew1 | refine below_set ?_ GE470.out) | exact HB.out)⟩
 ·replace c4 := Bool.eq_false_iff.mpr c4; subst c4; have H1 : (none) = some r := by rw [if_neg (show ¬ (false = true) by decide)] at H; exact H
  clear H; have H := H1; clear H1; exact absurd H (by simp)
end Go.Proofs.Ytjffojmpfdoodaa.X
