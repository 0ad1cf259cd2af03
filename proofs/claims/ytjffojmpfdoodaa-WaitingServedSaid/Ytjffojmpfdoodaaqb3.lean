-- Shared by this seat's claims: the words, what the printer printed, and the given functions' own texts, packed by wip/pack.py.
import Derived.Test.Ytjffojmpfdoodaaqb2
import Derived.Deep.AppendSrc
import Derived.Deep.RegionLaw
import Derived.Laws.Append
import Derived.Laws.AppendOwn
import Derived.Laws.CopyOwn
import Derived.Laws.CopyRow
import Derived.Laws.Externs
import Derived.Laws.NewBlocks
import Derived.Lib.AppendZerosOnto
import Derived.Lib.Overlaps
import Derived.WalkSpells
-- written by wip/xprint.py out of the translation (the kit's printer, driven)
namespace Go.Proofs.Ytjffojmpfdoodaa.X
open Go.RowKit Go.Proofs.YtjffojmpfdoodaaW.PrintWords Go.Proofs.YtjffojmpfdoodaaW.PrintLast Go.Proofs.YtjffojmpfdoodaaW.PrintMore
attribute [local go_sem] cell_twice max2_int min2_int max_two min_two max_three min_three max_four min_four   -- for this text's walks alone
set_option linter.unusedVariables false
set_option linter.unusedSimpArgs false

/-! ### api_Wait_30: function 30 -/
def api_Wait_30.l0 : Nat → List (S26) → Int → Int → Int → Int → Int → Int → Int → Int → Option (Int × Bool)
  | 0, _, _, _, _, _, _, _, _, _ => none
  | k + 1, x0, x8, x9, x10, x112000, x112001, x112002, x112003, x112004 => if x9 < x10 then (if 0 ≤ (wrap64 ((IntKind.u64.wrap (wrap64 (x9 + x10))) / 2)) then (if (wrap64 ((IntKind.u64.wrap (wrap64 (x9 + x10))) / 2)) < (x0.length : Int) then ((waiting_compare.f ((rd_T26 x0 (wrap64 ((IntKind.u64.wrap (wrap64 (x9 + x10))) / 2))).f0) ((rd_T26 x0 (wrap64 ((IntKind.u64.wrap (wrap64 (x9 + x10))) / 2))).f1.f0) ((rd_T26 x0 (wrap64 ((IntKind.u64.wrap (wrap64 (x9 + x10))) / 2))).f1.f1) ((rd_T26 x0 (wrap64 ((IntKind.u64.wrap (wrap64 (x9 + x10))) / 2))).f2) ((rd_T26 x0 (wrap64 ((IntKind.u64.wrap (wrap64 (x9 + x10))) / 2))).f3) x112000 x112001 x112002 x112003 x112004).bind fun t113 => (if t113 < 0 then (api_Wait_30.l0 k x0 x8 (wrap64 ((wrap64 ((IntKind.u64.wrap (wrap64 (x9 + x10))) / 2)) + 1)) x10 x112000 x112001 x112002 x112003 x112004) else (api_Wait_30.l0 k x0 x8 x9 (wrap64 ((IntKind.u64.wrap (wrap64 (x9 + x10))) / 2)) x112000 x112001 x112002 x112003 x112004))) else (none)) else (none)) else (if x9 < x8 then (if 0 ≤ x9 then (if x9 < (x0.length : Int) then ((waiting_compare.f ((rd_T26 x0 x9).f0) ((rd_T26 x0 x9).f1.f0) ((rd_T26 x0 x9).f1.f1) ((rd_T26 x0 x9).f2) ((rd_T26 x0 x9).f3) x112000 x112001 x112002 x112003 x112004).bind fun t115 => (some (x9, (t115 == 0)))) else (none)) else (none)) else (some (x9, false)))
def api_Wait_30.f (k : Nat) (l0 : List (S26)) (a1_0 : Int) (a1_1 : Int) (a1_2 : Int) (a1_3 : Int) (a1_4 : Int) (a2 : Unit) : Option (Int × Bool) := api_Wait_30.l0 k l0 (l0.length : Int) 0 (l0.length : Int) a1_0 a1_1 a1_2 a1_3 a1_4
theorem api_Wait_30.mono_l : ∀ k, (∀ y0 y1 y2 y3 y4 y5 y6 y7 y8, LeO (api_Wait_30.l0 k y0 y1 y2 y3 y4 y5 y6 y7 y8) (api_Wait_30.l0 (k + 1) y0 y1 y2 y3 y4 y5 y6 y7 y8))
  | 0 => fun _ _ _ _ _ _ _ _ _ r h => by simp [api_Wait_30.l0] at h
  | k + 1 => by
    have ih0 := api_Wait_30.mono_l k
    · intro y0 y1 y2 y3 y4 y5 y6 y7 y8
      unfold api_Wait_30.l0
      repeat' first
      | (with_reducible exact ih0 _ _ _ _ _ _ _ _ _)
      | (with_reducible exact LeO.refl _)
      | (with_reducible exact LeO.none _)
      | (with_reducible refine LeO.ite ?_ ?_)
      | (with_reducible refine LeO.bind ?_ (fun _ => ?_))
      | exact ih0 _ _ _ _ _ _ _ _ _
      | exact LeO.none _
      | refine LeO.ite ?_ ?_
      | refine LeO.bind ?_ (fun _ => ?_)
theorem api_Wait_30.mono : ∀ a0 a1 a2 a3 a4 a5 a6 k, LeO (api_Wait_30.f k a0 a1 a2 a3 a4 a5 a6) (api_Wait_30.f (k + 1) a0 a1 a2 a3 a4 a5 a6) := by
 intro a0 a1 a2 a3 a4 a5 a6 k; have ih0 := api_Wait_30.mono_l k; unfold api_Wait_30.f
 repeat' first
     | (with_reducible exact ih0 _ _ _ _ _ _ _ _ _)
     | (with_reducible exact LeO.refl _)
     | (with_reducible exact LeO.none _)
     | (with_reducible refine LeO.ite ?_ ?_)
     | (with_reducible refine LeO.bind ?_ (fun _ => ?_))
     | exact ih0 _ _ _ _ _ _ _ _ _
     | exact LeO.none _
     | refine LeO.ite ?_ ?_
     | refine LeO.bind ?_ (fun _ => ?_)
def api_Wait_30.T5 : Bool × List (List Nat × List Nat) := (true, [([], []), ([], []), ([], []), ([1, 2], [1, 2]), ([3], [3]), ([], []), ([0, 4, 5], [0, 4, 5]), ([6], [6])])
def api_Wait_30.B5 : List Nat := [0, 0, 0, 6, 14, 0, 63, 127]
theorem api_Wait_30.tab5 : rtab .any (opsOf Try.f30 5) = api_Wait_30.T5 := by kernel_rfl
theorem api_Wait_30.bits5 : waitsOk api_Wait_30.T5.2 api_Wait_30.B5 = true := by kernel_rfl
def api_Wait_30.T8 : Bool × List (List Nat × List Nat) := (true, [([], []), ([], []), ([], []), ([1, 2], [1, 2]), ([3], [3]), ([4], [4]), ([4], [4]), ([4], [4]), ([6, 7, 4], [4, 6, 7]), ([8, 4], [4, 8]), ([4], [4]), ([5, 9, 10, 4, 4], [4, 5, 9, 10]), ([11, 4], [4, 11]), ([4, 12], [4, 12]), ([0, 11, 0], [0]), ([13, 14, 0, 1, 2, 3, 4, 5, 6, 7, 8, 9, 10, 11, 12, 13, 14], [13])])
def api_Wait_30.B8 : List Nat := [0, 0, 0, 6, 14, 30, 30, 30, 222, 478, 30, 2046, 4094, 8190, 4095, 32767]
theorem api_Wait_30.tab8 : rtab .any (opsOf Try.f30 8) = api_Wait_30.T8 := by kernel_rfl
theorem api_Wait_30.bits8 : waitsOk api_Wait_30.T8.2 api_Wait_30.B8 = true := by kernel_rfl
set_option maxHeartbeats 8000000 in
set_option maxRecDepth 100000 in
theorem api_Wait_30.calls (k : Nat) (A0 : Option Addr) (c0 : Nat) (l0 : List (S26)) (a1_0 : Int) (a1_1 : Int) (a1_2 : Int) (a1_3 : Int) (a1_4 : Int) (a2 : Unit) (r1 : Int) (r2 : Bool) (w : World) (hr0 : Kd.C k26 w A0 l0.length l0) (hc0 : l0.length ≤ c0) (h : api_Wait_30.f k l0 a1_0 a1_1 a1_2 a1_3 a1_4 a2 = some (r1, r2)) :
    Calls Try.prog 30 #[.slice A0 l0.length c0, .agg #[.int .i64 a1_0, .int .i64 a1_1, .int .i64 a1_2, .int .i64 a1_3, .int .i64 a1_4], .func (.func 31) #[] #[]] w fun e w' => e = .returned (.tuple #[.int .i64 r1, .bool r2]) ∧ Below w.heap.size w w' := by
 have hu26 := Try.underlying26; have HR0 := Aside0.mk hr0; have HC0 := Aside0.mk hc0; clear hr0 hc0; have HB := Aside0.mk (Below.refl w.heap.size w); have H : (api_Wait_30.l0 k l0 (l0.length : Int) 0 (l0.length : Int) a1_0 a1_1 a1_2 a1_3 a1_4) = some (r1, r2) := h; clear h; have H' := Aside0.mk H; clear H; go_enter Try.func30, Try.ntmps30; go_wp2_with (first | ((with_reducible refine gate_dst (N := 4) rfl ?_); refine box_event ?hg (N := 4) ?hd (cs := #[.int .i64 a1_0, .int .i64 a1_1, .int .i64 a1_2, .int .i64 a1_3, .int .i64 a1_4]) (t := 26) ?hr ?_; (case hd => rfl); (case hg => rfl); (case hr => first | (go_simp; done) | (go_simp; rfl)); intro gb111 hg w4 hbox hb; have n0_ := Aside0.mk (below_step (by repeat (first | (with_reducible first | exact HB.out | apply below_alloc | apply pw_below_drewN | apply below_drew1) | exact HB.out)) hb); have n1_ := Aside0.mk (hbox); have n2_ := Aside0.mk ((by rw [hg]; exact (below_size (by repeat (first | (with_reducible first | exact HB.out | apply below_alloc | apply pw_below_drewN | apply below_drew1) | exact HB.out))) : w.heap.size ≤ gb111)); have n3_ := Aside0.mk ((by rw [hg]; exact (below_size (by repeat (first | (with_reducible first | exact HB.out | apply below_alloc | apply pw_below_drewN | apply below_drew1) | exact HB.out))) : w.heap.size ≤ gb111)); clear HB; have HB := n0_; have BK111 := n1_; have GW111 := n2_; have GE111 := n3_; clear n0_ n1_ n2_ n3_; clear hb hbox hg))
 go_loopg [9, 10] k (fun kq v9 v10 w' => ∃ (x9_1 : Int) (x10_1 : Int), v9 = .int .i64 x9_1 ∧ v10 = .int .i64 x10_1 ∧ Aside0 (api_Wait_30.l0 kq l0 (l0.length : Int) x9_1 x10_1 a1_0 a1_1 a1_2 a1_3 a1_4 = some (r1, r2)) ∧ Aside0 (kq ≤ k) ∧ Aside0 (w'.heap[gb111]? = some (.cells #[.int .i64 a1_0, .int .i64 a1_1, .int .i64 a1_2, .int .i64 a1_3, .int .i64 a1_4] 26 (0, 0))) ∧ Aside0 (Below w.heap.size w w'))
 case atStart => exact ⟨(0), ((l0.length : Int)), (by first | rfl | (simp; done) | (simp [*]; done)), (by first | rfl | (simp; done) | (simp [*]; done)), H', ⟨Nat.le_refl _⟩, ⟨by (with_reducible repeat (first | refine blk_drewN ?_ _ | refine blk_drew ?_ | refine blk_alloc ?_ _)); exact BK111.out⟩, ⟨by repeat (first | (with_reducible first | exact HB.out | apply below_alloc | apply pw_below_drewN | apply below_drew1 | refine below_set ?_ GE111.out) | exact HB.out)⟩⟩
 case round =>
  clear H'
  try clear p2
  try clear c3
  obtain ⟨x9_1, x10_1, rfl, rfl, HA, HK1, BK111, HB⟩ := hrel; cases gk with
  | zero => exact absurd HA.out (by simp [api_Wait_30.l0])
  | succ k1 =>
   have H := HA.out; clear HA; simp only [api_Wait_30.l0] at H; by_cases c5 : x9_1 < x10_1
   ·rw [if_pos c5] at H; have c5b0 : decide (x9_1 < x10_1) = true := decide_eq_true c5; clear c5; obtain ⟨ji6, hji6⟩ : ∃ j_ : Int, (wrap64 ((IntKind.u64.wrap (wrap64 (x9_1 + x10_1))) / 2)) = j_ := ⟨_, rfl⟩
    replace H : (if 0 ≤ (ji6) then (if (ji6) < (l0.length : Int) then ((waiting_compare.f ((rd_T26 l0 (ji6)).f0) ((rd_T26 l0 (ji6)).f1.f0) ((rd_T26 l0 (ji6)).f1.f1) ((rd_T26 l0 (ji6)).f2) ((rd_T26 l0 (ji6)).f3) a1_0 a1_1 a1_2 a1_3 a1_4).bind fun t113 => (if t113 < 0 then (api_Wait_30.l0 k1 l0 (l0.length : Int) (wrap64 ((ji6) + 1)) x10_1 a1_0 a1_1 a1_2 a1_3 a1_4) else (api_Wait_30.l0 k1 l0 (l0.length : Int) x9_1 ji6 a1_0 a1_1 a1_2 a1_3 a1_4))) else (none)) else (none)) = some (r1, r2) := by first | (rw [hji6] at H; exact H) | (simp only [hji6] at H ⊢; exact H)
    have hji6w : (IntKind.i64.wrap ((IntKind.u64.wrap (wrap64 (x9_1 + x10_1))) / 2)) = ji6 := (i64_w _).trans hji6; by_cases c7 : 0 ≤ (ji6)
    ·rw [if_pos c7] at H; have c7b0 : decide (0 ≤ (ji6)) = true := decide_eq_true c7; clear c7; by_cases c8 : (ji6) < (l0.length : Int)
     ·rw [if_pos c8] at H; have c8b0 : decide ((ji6) < (l0.length : Int)) = true := decide_eq_true c8; clear c8; replace H := Option.bind_eq_some_iff.mp H; obtain ⟨t113, A90, H⟩ := H; replace H : (if t113 < 0 then (api_Wait_30.l0 k1 l0 (l0.length : Int) (wrap64 ((ji6) + 1)) x10_1 a1_0 a1_1 a1_2 a1_3 a1_4) else (api_Wait_30.l0 k1 l0 (l0.length : Int) x9_1 ji6 a1_0 a1_1 a1_2 a1_3 a1_4)) = some (r1, r2) := H; have A9 := Aside0.mk A90; clear A90; by_cases c10 : t113 < 0
      ·rw [if_pos c10] at H; have c10b0 : decide (t113 < 0) = true := decide_eq_true c10; clear c10; have H' := Aside0.mk H; clear H
       try go_wp2
       have n0_ := Aside0.mk (blk_drew BK111.out); have n1_ := Aside0.mk (below_drew1 HB.out); clear BK111; clear HB; have BK111 := n0_; have HB := n1_; clear n0_ n1_; have p112 : 0 ≤ ((ji6) : Int) := of_decide_eq_true (by first | (with_reducible assumption) | assumption); have q112 : (ji6) < (l0.length : Int) := of_decide_eq_true (by first | (with_reducible assumption) | assumption); obtain ⟨ad112, e112, hx112_0, hx112_1, hx112_2, hx112_3, hx112_4⟩ := at_T26 HR0.out (ji6) p112 q112; have hw112_4 := hx112_4; have hw112_3 := hx112_3; have hw112_2 := hx112_2; have hw112_1 := hx112_1; have hw112_0 := hx112_0; cases e112; replace hx112_0 := (HB.out.cell (World.block_lt_of_cell? w _ hx112_0)).trans hx112_0; replace hx112_1 := (HB.out.cell (World.block_lt_of_cell? w _ hx112_1)).trans hx112_1; replace hx112_2 := (HB.out.cell (World.block_lt_of_cell? w _ hx112_2)).trans hx112_2; replace hx112_3 := (HB.out.cell (World.block_lt_of_cell? w _ hx112_3)).trans hx112_3; replace hx112_4 := (HB.out.cell (World.block_lt_of_cell? w _ hx112_4)).trans hx112_4; replace p112 := eq_true p112; replace q112 := eq_true q112; refine start_ (n := 8) (S := fun w' => w'.cell? ⟨gb111, 0, none⟩ = some (.int .i64 a1_0) ∧ w'.cell? ⟨gb111, 1, none⟩ = some (.int .i64 a1_1) ∧ w'.cell? ⟨gb111, 2, none⟩ = some (.int .i64 a1_2) ∧ w'.cell? ⟨gb111, 3, none⟩ = some (.int .i64 a1_3) ∧ w'.cell? ⟨gb111, 4, none⟩ = some (.int .i64 a1_4) ∧ w'.cell? (ad112.add (((ji6)).toNat * 5)) = some (.int .i64 ((rd_T26 l0 (ji6)).f0)) ∧ w'.cell? ⟨(ad112.add (((ji6)).toNat * 5)).block, (ad112.add (((ji6)).toNat * 5)).off + 1, none⟩ = some (.int .i64 ((rd_T26 l0 (ji6)).f1.f0)) ∧ w'.cell? ⟨(ad112.add (((ji6)).toNat * 5)).block, (ad112.add (((ji6)).toNat * 5)).off + 2, none⟩ = some (.int .i64 ((rd_T26 l0 (ji6)).f1.f1)) ∧ w'.cell? ⟨(ad112.add (((ji6)).toNat * 5)).block, (ad112.add (((ji6)).toNat * 5)).off + 3, none⟩ = some (.int .i64 ((rd_T26 l0 (ji6)).f2)) ∧ w'.cell? ⟨(ad112.add (((ji6)).toNat * 5)).block, (ad112.add (((ji6)).toNat * 5)).off + 4, none⟩ = some (.int .i64 ((rd_T26 l0 (ji6)).f3))) (ds := []) #[nF,nF,nF,nF,nF,nF,nF,nF] (by kernel_rfl) rfl rfl ⟨(blk_cell BK111.out 0).trans rfl, (blk_cell BK111.out 1).trans rfl, (blk_cell BK111.out 2).trans rfl, (blk_cell BK111.out 3).trans rfl, (blk_cell BK111.out 4).trans rfl, ((HB.out.cell (World.block_lt_of_cell? w _ hw112_0)).trans hw112_0), ((HB.out.cell (World.block_lt_of_cell? w _ hw112_1)).trans hw112_1), ((HB.out.cell (World.block_lt_of_cell? w _ hw112_2)).trans hw112_2), ((HB.out.cell (World.block_lt_of_cell? w _ hw112_3)).trans hw112_3), ((HB.out.cell (World.block_lt_of_cell? w _ hw112_4)).trans hw112_4)⟩ (fun hHeld => ?_); refine with_tabW api_Wait_30.tab5 api_Wait_30.bits5 (fun HT_ HW_ => ?_); generalize wr.drew = w11 at BK111 HB hx112_0 hx112_1 hx112_2 hx112_3 hx112_4 hHeld ⊢; refine pure_ (i := 0) (N := some 24) (v := ?_) (a' := ?_) #[yT,nF,nF,nF,nF,nF,nF,nF] rfl rfl (any_of HT_.out (by kernel_rfl)) (fun _ _ _ h => h) (Or.inl ⟨by rfl, ?_⟩) ?_ ?_; rotate_left; (intro w'; go_simp; with_reducible rfl); rotate_left; (simp only [Act.put, sqA, sqB, sqC, i64_w, i32_w]; rfl); refine pure_ (i := 1) (N := some 25) (v := ?_) (a' := ?_) #[yT,yT,nF,nF,nF,nF,nF,nF] rfl rfl (any_of HT_.out (by kernel_rfl)) (fun _ _ _ h => h) (Or.inl ⟨by rfl, ?_⟩) ?_ ?_; rotate_left; (intro w'; go_simp; with_reducible rfl); rotate_left; (simp only [Act.put, sqA, sqB, sqC, i64_w, i32_w]; rfl); refine pure_ (i := 2) (N := some 26) (v := ?_) (a' := ?_) #[yT,yT,yT,nF,nF,nF,nF,nF] rfl rfl (any_of HT_.out (by kernel_rfl)) (fun _ _ _ h => h) (Or.inl ⟨by rfl, ?_⟩) ?_ ?_; rotate_left; (intro w'; go_simp; with_reducible rfl); rotate_left; (simp only [Act.put, sqA, sqB, sqC, i64_w, i32_w]; rfl); refine pure_ (i := 3) (N := some 27) (v := ?_) (a' := ?_) #[yT,yT,yT,yT,nF,nF,nF,nF] rfl rfl (any_of HT_.out (by kernel_rfl)) (fun _ _ _ h => h) (Or.inl ⟨by rfl, ?_⟩) ?_ ?_; rotate_left; (intro w'; go_simp; with_reducible rfl); rotate_left; (simp only [Act.put, sqA, sqB, sqC, i64_w, i32_w]; rfl); refine take_ (i := 4) (N := some 28) (v := ?_) (a' := ?_) #[yT,yT,yT,yT,yT,nF,nF,nF] rfl rfl (take_ofW HT_.out HW_.out (by kernel_rfl)) (fun _ _ _ h => h) (Or.inl ⟨by rfl, ?_⟩) hHeld ?_ ?_; rotate_left; (rintro w' ⟨s0, s1, s2, s3, s4, s5, s6, s7, s8, s9⟩; go_simp; with_reducible rfl); rotate_left; (simp only [Act.put, sqA, sqB, sqC, i64_w, i32_w]; rfl); refine take_ (i := 5) (N := some 29) (v := ?_) (a' := ?_) #[yT,yT,yT,yT,yT,yT,nF,nF] rfl rfl (take_ofW HT_.out HW_.out (by kernel_rfl)) (fun _ _ _ h => h) (Or.inl ⟨by rfl, ?_⟩) hHeld ?_ ?_; rotate_left; (rintro w' ⟨s0, s1, s2, s3, s4, s5, s6, s7, s8, s9⟩; go_simp; with_reducible rfl); rotate_left; (simp only [Act.put, sqA, sqB, sqC, i64_w, i32_w]; rfl); refine one_ (i := 6) (N := some 30) #[yT,yT,yT,yT,yT,yT,yT,nF] rfl rfl (one_of HT_.out (by kernel_rfl)) (by decide) (fun K hK => ?_); refine goesT_ Try.func31 (by kernel_rfl) rfl #[.agg #[.int .i64 ((rd_T26 l0 (ji6)).f0), .int .i64 ((rd_T26 l0 (ji6)).f1.f0), .int .i64 ((rd_T26 l0 (ji6)).f1.f1), .int .i64 ((rd_T26 l0 (ji6)).f2), .int .i64 ((rd_T26 l0 (ji6)).f3)], .agg #[.int .i64 a1_0, .int .i64 a1_1, .int .i64 a1_2, .int .i64 a1_3, .int .i64 a1_4]] (by rfl) rfl rfl rfl (by (try simp only [List.map_toArray, List.map_cons, List.map_nil]); first | done | (simp only [hji6]; rfl) | rfl | (simp only [List.length_drop, List.length_take]; rfl)) ?_; with_reducible refine (waiting_compare.calls ((rd_T26 l0 (ji6)).f0) ((rd_T26 l0 (ji6)).f1.f0) ((rd_T26 l0 (ji6)).f1.f1) ((rd_T26 l0 (ji6)).f2) ((rd_T26 l0 (ji6)).f3) a1_0 a1_1 a1_2 a1_3 a1_4 t113 _ A9.out).mono ?_
       rintro e w12 ⟨rfl, hb⟩; refine ⟨_, rfl, ?_⟩; have n0_ := Aside0.mk (blk_below (g := gb111) (o := .cells #[.int .i64 a1_0, .int .i64 a1_1, .int .i64 a1_2, .int .i64 a1_3, .int .i64 a1_4] 26 (0, 0)) (by (with_reducible repeat (first | refine blk_drewN ?_ _ | refine blk_drew ?_ | refine blk_alloc ?_ _)); exact BK111.out) hb); have n1_ := Aside0.mk (below_step (by repeat (first | (with_reducible first | exact HB.out | apply below_alloc | apply pw_below_drewN | apply below_drew1 | refine below_set ?_ GE111.out) | exact HB.out)) hb); clear BK111; clear HB; have BK111 := n0_; have HB := n1_; clear n0_ n1_; (try clear hb)
       (try clear hb2)
       (try clear hk)
       (try clear hi)
       refine hK.out _ _ ⟨(blk_cell BK111.out 0).trans rfl, (blk_cell BK111.out 1).trans rfl, (blk_cell BK111.out 2).trans rfl, (blk_cell BK111.out 3).trans rfl, (blk_cell BK111.out 4).trans rfl, ((HB.out.cell (World.block_lt_of_cell? w _ hw112_0)).trans hw112_0), ((HB.out.cell (World.block_lt_of_cell? w _ hw112_1)).trans hw112_1), ((HB.out.cell (World.block_lt_of_cell? w _ hw112_2)).trans hw112_2), ((HB.out.cell (World.block_lt_of_cell? w _ hw112_3)).trans hw112_3), ((HB.out.cell (World.block_lt_of_cell? w _ hw112_4)).trans hw112_4)⟩ (fun hHeld => ?_); clear hK K; refine norm_ (a' := ?_) ?_ ?_; rotate_left
       ·show Act.put _ (some 30) _ = _
        simp only [Act.put, sqA, sqB, sqC, i64_w, i32_w]; rfl
       refine pure_ (i := 7) (N := some 31) (v := ?_) (a' := ?_) #[yT,yT,yT,yT,yT,yT,yT,yT] rfl rfl (any_of HT_.out (by kernel_rfl)) (fun _ _ _ h => h) (Or.inl ⟨by rfl, ?_⟩) ?_ ?_; rotate_left; (intro w'; go_simp; with_reducible rfl); rotate_left; (simp only [Act.put, sqA, sqB, sqC, i64_w, i32_w]; rfl); refine done_ (done_of HT_.out (by kernel_rfl)) ?_
       try go_wp2
       go_roundg k1
       case measure => have := HK1.out; omega
       case rel => exact ⟨(wrap64 ((ji6) + 1)), (x10_1), (by first | rfl | (simp; done) | (simp only [← hji6] <;> (first | rfl | simp)) | (simp [*]; done)), (by first | rfl | (simp; done) | (simp [*]; done)), H', ⟨by have := HK1.out; omega⟩, ⟨by (with_reducible repeat (first | refine blk_drewN ?_ _ | refine blk_drew ?_ | refine blk_alloc ?_ _)); exact BK111.out⟩, ⟨by repeat (first | (with_reducible first | exact HB.out | apply below_alloc | apply pw_below_drewN | apply below_drew1 | refine below_set ?_ GE111.out) | exact HB.out)⟩⟩
      ·rw [if_neg c10] at H; have c10b0 : decide (t113 < 0) = false := decide_eq_false c10; clear c10; have H' := Aside0.mk H; clear H
       try go_wp2
       have n0_ := Aside0.mk (blk_drew BK111.out); have n1_ := Aside0.mk (below_drew1 HB.out); clear BK111; clear HB; have BK111 := n0_; have HB := n1_; clear n0_ n1_; have p112 : 0 ≤ ((ji6) : Int) := of_decide_eq_true (by first | (with_reducible assumption) | assumption); have q112 : (ji6) < (l0.length : Int) := of_decide_eq_true (by first | (with_reducible assumption) | assumption); obtain ⟨ad112, e112, hx112_0, hx112_1, hx112_2, hx112_3, hx112_4⟩ := at_T26 HR0.out (ji6) p112 q112; have hw112_4 := hx112_4; have hw112_3 := hx112_3; have hw112_2 := hx112_2; have hw112_1 := hx112_1; have hw112_0 := hx112_0; cases e112; replace hx112_0 := (HB.out.cell (World.block_lt_of_cell? w _ hx112_0)).trans hx112_0; replace hx112_1 := (HB.out.cell (World.block_lt_of_cell? w _ hx112_1)).trans hx112_1; replace hx112_2 := (HB.out.cell (World.block_lt_of_cell? w _ hx112_2)).trans hx112_2; replace hx112_3 := (HB.out.cell (World.block_lt_of_cell? w _ hx112_3)).trans hx112_3; replace hx112_4 := (HB.out.cell (World.block_lt_of_cell? w _ hx112_4)).trans hx112_4; replace p112 := eq_true p112; replace q112 := eq_true q112; refine start_ (n := 8) (S := fun w' => w'.cell? ⟨gb111, 0, none⟩ = some (.int .i64 a1_0) ∧ w'.cell? ⟨gb111, 1, none⟩ = some (.int .i64 a1_1) ∧ w'.cell? ⟨gb111, 2, none⟩ = some (.int .i64 a1_2) ∧ w'.cell? ⟨gb111, 3, none⟩ = some (.int .i64 a1_3) ∧ w'.cell? ⟨gb111, 4, none⟩ = some (.int .i64 a1_4) ∧ w'.cell? (ad112.add (((ji6)).toNat * 5)) = some (.int .i64 ((rd_T26 l0 (ji6)).f0)) ∧ w'.cell? ⟨(ad112.add (((ji6)).toNat * 5)).block, (ad112.add (((ji6)).toNat * 5)).off + 1, none⟩ = some (.int .i64 ((rd_T26 l0 (ji6)).f1.f0)) ∧ w'.cell? ⟨(ad112.add (((ji6)).toNat * 5)).block, (ad112.add (((ji6)).toNat * 5)).off + 2, none⟩ = some (.int .i64 ((rd_T26 l0 (ji6)).f1.f1)) ∧ w'.cell? ⟨(ad112.add (((ji6)).toNat * 5)).block, (ad112.add (((ji6)).toNat * 5)).off + 3, none⟩ = some (.int .i64 ((rd_T26 l0 (ji6)).f2)) ∧ w'.cell? ⟨(ad112.add (((ji6)).toNat * 5)).block, (ad112.add (((ji6)).toNat * 5)).off + 4, none⟩ = some (.int .i64 ((rd_T26 l0 (ji6)).f3))) (ds := []) #[nF,nF,nF,nF,nF,nF,nF,nF] (by kernel_rfl) rfl rfl ⟨(blk_cell BK111.out 0).trans rfl, (blk_cell BK111.out 1).trans rfl, (blk_cell BK111.out 2).trans rfl, (blk_cell BK111.out 3).trans rfl, (blk_cell BK111.out 4).trans rfl, ((HB.out.cell (World.block_lt_of_cell? w _ hw112_0)).trans hw112_0), ((HB.out.cell (World.block_lt_of_cell? w _ hw112_1)).trans hw112_1), ((HB.out.cell (World.block_lt_of_cell? w _ hw112_2)).trans hw112_2), ((HB.out.cell (World.block_lt_of_cell? w _ hw112_3)).trans hw112_3), ((HB.out.cell (World.block_lt_of_cell? w _ hw112_4)).trans hw112_4)⟩ (fun hHeld => ?_); refine with_tabW api_Wait_30.tab5 api_Wait_30.bits5 (fun HT_ HW_ => ?_); generalize wr.drew = w13 at BK111 HB hx112_0 hx112_1 hx112_2 hx112_3 hx112_4 hHeld ⊢; refine pure_ (i := 0) (N := some 24) (v := ?_) (a' := ?_) #[yT,nF,nF,nF,nF,nF,nF,nF] rfl rfl (any_of HT_.out (by kernel_rfl)) (fun _ _ _ h => h) (Or.inl ⟨by rfl, ?_⟩) ?_ ?_; rotate_left; (intro w'; go_simp; with_reducible rfl); rotate_left; (simp only [Act.put, sqA, sqB, sqC, i64_w, i32_w]; rfl); refine pure_ (i := 1) (N := some 25) (v := ?_) (a' := ?_) #[yT,yT,nF,nF,nF,nF,nF,nF] rfl rfl (any_of HT_.out (by kernel_rfl)) (fun _ _ _ h => h) (Or.inl ⟨by rfl, ?_⟩) ?_ ?_; rotate_left; (intro w'; go_simp; with_reducible rfl); rotate_left; (simp only [Act.put, sqA, sqB, sqC, i64_w, i32_w]; rfl); refine pure_ (i := 2) (N := some 26) (v := ?_) (a' := ?_) #[yT,yT,yT,nF,nF,nF,nF,nF] rfl rfl (any_of HT_.out (by kernel_rfl)) (fun _ _ _ h => h) (Or.inl ⟨by rfl, ?_⟩) ?_ ?_; rotate_left; (intro w'; go_simp; with_reducible rfl); rotate_left; (simp only [Act.put, sqA, sqB, sqC, i64_w, i32_w]; rfl); refine pure_ (i := 3) (N := some 27) (v := ?_) (a' := ?_) #[yT,yT,yT,yT,nF,nF,nF,nF] rfl rfl (any_of HT_.out (by kernel_rfl)) (fun _ _ _ h => h) (Or.inl ⟨by rfl, ?_⟩) ?_ ?_; rotate_left; (intro w'; go_simp; with_reducible rfl); rotate_left; (simp only [Act.put, sqA, sqB, sqC, i64_w, i32_w]; rfl); refine take_ (i := 4) (N := some 28) (v := ?_) (a' := ?_) #[yT,yT,yT,yT,yT,nF,nF,nF] rfl rfl (take_ofW HT_.out HW_.out (by kernel_rfl)) (fun _ _ _ h => h) (Or.inl ⟨by rfl, ?_⟩) hHeld ?_ ?_; rotate_left; (rintro w' ⟨s0, s1, s2, s3, s4, s5, s6, s7, s8, s9⟩; go_simp; with_reducible rfl); rotate_left; (simp only [Act.put, sqA, sqB, sqC, i64_w, i32_w]; rfl); refine take_ (i := 5) (N := some 29) (v := ?_) (a' := ?_) #[yT,yT,yT,yT,yT,yT,nF,nF] rfl rfl (take_ofW HT_.out HW_.out (by kernel_rfl)) (fun _ _ _ h => h) (Or.inl ⟨by rfl, ?_⟩) hHeld ?_ ?_; rotate_left; (rintro w' ⟨s0, s1, s2, s3, s4, s5, s6, s7, s8, s9⟩; go_simp; with_reducible rfl); rotate_left; (simp only [Act.put, sqA, sqB, sqC, i64_w, i32_w]; rfl); refine one_ (i := 6) (N := some 30) #[yT,yT,yT,yT,yT,yT,yT,nF] rfl rfl (one_of HT_.out (by kernel_rfl)) (by decide) (fun K hK => ?_); refine goesT_ Try.func31 (by kernel_rfl) rfl #[.agg #[.int .i64 ((rd_T26 l0 (ji6)).f0), .int .i64 ((rd_T26 l0 (ji6)).f1.f0), .int .i64 ((rd_T26 l0 (ji6)).f1.f1), .int .i64 ((rd_T26 l0 (ji6)).f2), .int .i64 ((rd_T26 l0 (ji6)).f3)], .agg #[.int .i64 a1_0, .int .i64 a1_1, .int .i64 a1_2, .int .i64 a1_3, .int .i64 a1_4]] (by rfl) rfl rfl rfl (by (try simp only [List.map_toArray, List.map_cons, List.map_nil]); first | done | (simp only [hji6]; rfl) | rfl | (simp only [List.length_drop, List.length_take]; rfl)) ?_; with_reducible refine (waiting_compare.calls ((rd_T26 l0 (ji6)).f0) ((rd_T26 l0 (ji6)).f1.f0) ((rd_T26 l0 (ji6)).f1.f1) ((rd_T26 l0 (ji6)).f2) ((rd_T26 l0 (ji6)).f3) a1_0 a1_1 a1_2 a1_3 a1_4 t113 _ A9.out).mono ?_
       rintro e w14 ⟨rfl, hb⟩; refine ⟨_, rfl, ?_⟩; have n0_ := Aside0.mk (blk_below (g := gb111) (o := .cells #[.int .i64 a1_0, .int .i64 a1_1, .int .i64 a1_2, .int .i64 a1_3, .int .i64 a1_4] 26 (0, 0)) (by (with_reducible repeat (first | refine blk_drewN ?_ _ | refine blk_drew ?_ | refine blk_alloc ?_ _)); exact BK111.out) hb); have n1_ := Aside0.mk (below_step (by repeat (first | (with_reducible first | exact HB.out | apply below_alloc | apply pw_below_drewN | apply below_drew1 | refine below_set ?_ GE111.out) | exact HB.out)) hb); clear BK111; clear HB; have BK111 := n0_; have HB := n1_; clear n0_ n1_; (try clear hb)
       (try clear hb2)
       (try clear hk)
       (try clear hi)
       refine hK.out _ _ ⟨(blk_cell BK111.out 0).trans rfl, (blk_cell BK111.out 1).trans rfl, (blk_cell BK111.out 2).trans rfl, (blk_cell BK111.out 3).trans rfl, (blk_cell BK111.out 4).trans rfl, ((HB.out.cell (World.block_lt_of_cell? w _ hw112_0)).trans hw112_0), ((HB.out.cell (World.block_lt_of_cell? w _ hw112_1)).trans hw112_1), ((HB.out.cell (World.block_lt_of_cell? w _ hw112_2)).trans hw112_2), ((HB.out.cell (World.block_lt_of_cell? w _ hw112_3)).trans hw112_3), ((HB.out.cell (World.block_lt_of_cell? w _ hw112_4)).trans hw112_4)⟩ (fun hHeld => ?_); clear hK K; refine norm_ (a' := ?_) ?_ ?_; rotate_left
       ·show Act.put _ (some 30) _ = _
        simp only [Act.put, sqA, sqB, sqC, i64_w, i32_w]; rfl
       refine pure_ (i := 7) (N := some 31) (v := ?_) (a' := ?_) #[yT,yT,yT,yT,yT,yT,yT,yT] rfl rfl (any_of HT_.out (by kernel_rfl)) (fun _ _ _ h => h) (Or.inl ⟨by rfl, ?_⟩) ?_ ?_; rotate_left; (intro w'; go_simp; with_reducible rfl); rotate_left; (simp only [Act.put, sqA, sqB, sqC, i64_w, i32_w]; rfl); refine done_ (done_of HT_.out (by kernel_rfl)) ?_
       try go_wp2
       go_roundg k1
       case measure => have := HK1.out; omega
       case rel => exact ⟨(x9_1), (ji6), (by first | rfl | (simp; done) | (simp [*]; done)), (by first | rfl | (simp; done) | (simp only [← hji6] <;> (first | rfl | simp)) | (simp [*]; done)), H', ⟨by have := HK1.out; omega⟩, ⟨by (with_reducible repeat (first | refine blk_drewN ?_ _ | refine blk_drew ?_ | refine blk_alloc ?_ _)); exact BK111.out⟩, ⟨by repeat (first | (with_reducible first | exact HB.out | apply below_alloc | apply pw_below_drewN | apply below_drew1 | refine below_set ?_ GE111.out) | exact HB.out)⟩⟩
     (rw [if_neg c8] at H; exact absurd H (by simp))
    (rw [if_neg c7] at H; exact absurd H (by simp))
   ·rw [if_neg c5] at H; have c5b0 : decide (x9_1 < x10_1) = false := decide_eq_false c5; clear c5; by_cases c15 : x9_1 < (l0.length : Int)
    ·rw [if_pos c15] at H; have c15b0 : decide (x9_1 < (l0.length : Int)) = true := decide_eq_true c15; clear c15; by_cases c16 : 0 ≤ x9_1
     ·rw [if_pos c16] at H; have c16b0 : decide (0 ≤ x9_1) = true := decide_eq_true c16; clear c16; by_cases c17 : x9_1 < (l0.length : Int)
      ·rw [if_pos c17] at H; have c17b0 : decide (x9_1 < (l0.length : Int)) = true := decide_eq_true c17; clear c17; replace H := Option.bind_eq_some_iff.mp H; obtain ⟨t115, A180, H⟩ := H; replace H : (some (x9_1, (t115 == 0))) = some (r1, r2) := H; have A18 := Aside0.mk A180; clear A180; simp only [Option.some.injEq, Prod.mk.injEq] at H; obtain ⟨rfl, rfl⟩ := H
       try go_wp2
       have n0_ := Aside0.mk (blk_drew BK111.out); have n1_ := Aside0.mk (below_drew1 HB.out); clear BK111; clear HB; have BK111 := n0_; have HB := n1_; clear n0_ n1_; have p114 : 0 ≤ (x9_1 : Int) := of_decide_eq_true (by first | (with_reducible assumption) | assumption); have q114 : x9_1 < (l0.length : Int) := of_decide_eq_true (by first | (with_reducible assumption) | assumption); obtain ⟨ad114, e114, hx114_0, hx114_1, hx114_2, hx114_3, hx114_4⟩ := at_T26 HR0.out x9_1 p114 q114; have hw114_4 := hx114_4; have hw114_3 := hx114_3; have hw114_2 := hx114_2; have hw114_1 := hx114_1; have hw114_0 := hx114_0; cases e114; replace hx114_0 := (HB.out.cell (World.block_lt_of_cell? w _ hx114_0)).trans hx114_0; replace hx114_1 := (HB.out.cell (World.block_lt_of_cell? w _ hx114_1)).trans hx114_1; replace hx114_2 := (HB.out.cell (World.block_lt_of_cell? w _ hx114_2)).trans hx114_2; replace hx114_3 := (HB.out.cell (World.block_lt_of_cell? w _ hx114_3)).trans hx114_3; replace hx114_4 := (HB.out.cell (World.block_lt_of_cell? w _ hx114_4)).trans hx114_4; replace p114 := eq_true p114; replace q114 := eq_true q114; refine start_ (n := 16) (S := fun w' => w'.cell? ⟨gb111, 0, none⟩ = some (.int .i64 a1_0) ∧ w'.cell? ⟨gb111, 1, none⟩ = some (.int .i64 a1_1) ∧ w'.cell? ⟨gb111, 2, none⟩ = some (.int .i64 a1_2) ∧ w'.cell? ⟨gb111, 3, none⟩ = some (.int .i64 a1_3) ∧ w'.cell? ⟨gb111, 4, none⟩ = some (.int .i64 a1_4) ∧ w'.cell? (ad114.add ((x9_1).toNat * 5)) = some (.int .i64 ((rd_T26 l0 x9_1).f0)) ∧ w'.cell? ⟨(ad114.add ((x9_1).toNat * 5)).block, (ad114.add ((x9_1).toNat * 5)).off + 1, none⟩ = some (.int .i64 ((rd_T26 l0 x9_1).f1.f0)) ∧ w'.cell? ⟨(ad114.add ((x9_1).toNat * 5)).block, (ad114.add ((x9_1).toNat * 5)).off + 2, none⟩ = some (.int .i64 ((rd_T26 l0 x9_1).f1.f1)) ∧ w'.cell? ⟨(ad114.add ((x9_1).toNat * 5)).block, (ad114.add ((x9_1).toNat * 5)).off + 3, none⟩ = some (.int .i64 ((rd_T26 l0 x9_1).f2)) ∧ w'.cell? ⟨(ad114.add ((x9_1).toNat * 5)).block, (ad114.add ((x9_1).toNat * 5)).off + 4, none⟩ = some (.int .i64 ((rd_T26 l0 x9_1).f3))) (ds := []) #[nF,nF,nF,nF,nF,nF,nF,nF,nF,nF,nF,nF,nF,nF,nF,nF] (by kernel_rfl) rfl rfl ⟨(blk_cell BK111.out 0).trans rfl, (blk_cell BK111.out 1).trans rfl, (blk_cell BK111.out 2).trans rfl, (blk_cell BK111.out 3).trans rfl, (blk_cell BK111.out 4).trans rfl, ((HB.out.cell (World.block_lt_of_cell? w _ hw114_0)).trans hw114_0), ((HB.out.cell (World.block_lt_of_cell? w _ hw114_1)).trans hw114_1), ((HB.out.cell (World.block_lt_of_cell? w _ hw114_2)).trans hw114_2), ((HB.out.cell (World.block_lt_of_cell? w _ hw114_3)).trans hw114_3), ((HB.out.cell (World.block_lt_of_cell? w _ hw114_4)).trans hw114_4)⟩ (fun hHeld => ?_); refine with_tabW api_Wait_30.tab8 api_Wait_30.bits8 (fun HT_ HW_ => ?_); generalize wr.drew = w19 at BK111 HB hx114_0 hx114_1 hx114_2 hx114_3 hx114_4 hHeld ⊢; refine pure_ (i := 0) (N := some 35) (v := ?_) (a' := ?_) #[yT,nF,nF,nF,nF,nF,nF,nF,nF,nF,nF,nF,nF,nF,nF,nF] rfl rfl (any_of HT_.out (by kernel_rfl)) (fun _ _ _ h => h) (Or.inl ⟨by rfl, ?_⟩) ?_ ?_; rotate_left; (intro w'; go_simp; with_reducible rfl); rotate_left; (simp only [Act.put, sqA, sqB, sqC, i64_w, i32_w]; rfl); refine pure_ (i := 1) (N := some 36) (v := ?_) (a' := ?_) #[yT,yT,nF,nF,nF,nF,nF,nF,nF,nF,nF,nF,nF,nF,nF,nF] rfl rfl (any_of HT_.out (by kernel_rfl)) (fun _ _ _ h => h) (Or.inl ⟨by rfl, ?_⟩) ?_ ?_; rotate_left; (intro w'; go_simp; with_reducible rfl); rotate_left; (simp only [Act.put, sqA, sqB, sqC, i64_w, i32_w]; rfl); refine pure_ (i := 2) (N := some 37) (v := ?_) (a' := ?_) #[yT,yT,yT,nF,nF,nF,nF,nF,nF,nF,nF,nF,nF,nF,nF,nF] rfl rfl (any_of HT_.out (by kernel_rfl)) (fun _ _ _ h => h) (Or.inl ⟨by rfl, ?_⟩) ?_ ?_; rotate_left; (intro w'; go_simp; with_reducible rfl); rotate_left; (simp only [Act.put, sqA, sqB, sqC, i64_w, i32_w]; rfl); refine pure_ (i := 3) (N := some 38) (v := ?_) (a' := ?_) #[yT,yT,yT,yT,nF,nF,nF,nF,nF,nF,nF,nF,nF,nF,nF,nF] rfl rfl (any_of HT_.out (by kernel_rfl)) (fun _ _ _ h => h) (Or.inl ⟨by rfl, ?_⟩) ?_ ?_; rotate_left; (intro w'; go_simp; with_reducible rfl); rotate_left; (simp only [Act.put, sqA, sqB, sqC, i64_w, i32_w]; rfl); refine pure_ (i := 4) (N := some 39) (v := ?_) (a' := ?_) #[yT,yT,yT,yT,yT,nF,nF,nF,nF,nF,nF,nF,nF,nF,nF,nF] rfl rfl (any_of HT_.out (by kernel_rfl)) (fun _ _ _ h => h) (Or.inl ⟨by rfl, ?_⟩) ?_ ?_; rotate_left; (intro w'; go_simp; with_reducible rfl); rotate_left; (simp only [Act.put, sqA, sqB, sqC, i64_w, i32_w]; rfl); refine pure_ (i := 5) (N := some 40) (v := ?_) (a' := ?_) #[yT,yT,yT,yT,yT,yT,nF,nF,nF,nF,nF,nF,nF,nF,nF,nF] rfl rfl (any_of HT_.out (by kernel_rfl)) (fun _ _ _ h => h) (Or.inl ⟨by rfl, ?_⟩) ?_ ?_; rotate_left; (intro w'; go_simp; with_reducible rfl); rotate_left; (simp only [Act.put, sqA, sqB, sqC, i64_w, i32_w]; rfl); refine pure_ (i := 6) (N := some 41) (v := ?_) (a' := ?_) #[yT,yT,yT,yT,yT,yT,yT,nF,nF,nF,nF,nF,nF,nF,nF,nF] rfl rfl (any_of HT_.out (by kernel_rfl)) (fun _ _ _ h => h) (Or.inl ⟨by rfl, ?_⟩) ?_ ?_; rotate_left; (intro w'; go_simp; with_reducible rfl); rotate_left; (simp only [Act.put, sqA, sqB, sqC, i64_w, i32_w]; rfl); refine pure_ (i := 7) (N := some 42) (v := ?_) (a' := ?_) #[yT,yT,yT,yT,yT,yT,yT,yT,nF,nF,nF,nF,nF,nF,nF,nF] rfl rfl (any_of HT_.out (by kernel_rfl)) (fun _ _ _ h => h) (Or.inl ⟨by rfl, ?_⟩) ?_ ?_; rotate_left; (intro w'; go_simp; with_reducible rfl); rotate_left; (simp only [Act.put, sqA, sqB, sqC, i64_w, i32_w]; rfl); refine pure_ (i := 8) (N := some 43) (v := ?_) (a' := ?_) #[yT,yT,yT,yT,yT,yT,yT,yT,yT,nF,nF,nF,nF,nF,nF,nF] rfl rfl (any_of HT_.out (by kernel_rfl)) (fun _ _ _ h => h) (Or.inl ⟨by rfl, ?_⟩) ?_ ?_; rotate_left; (intro w'; go_simp; with_reducible rfl); rotate_left; (simp only [Act.put, sqA, sqB, sqC, i64_w, i32_w]; rfl); refine take_ (i := 9) (N := some 44) (v := ?_) (a' := ?_) #[yT,yT,yT,yT,yT,yT,yT,yT,yT,yT,nF,nF,nF,nF,nF,nF] rfl rfl (take_ofW HT_.out HW_.out (by kernel_rfl)) (fun _ _ _ h => h) (Or.inl ⟨by rfl, ?_⟩) hHeld ?_ ?_; rotate_left; (rintro w' ⟨s0, s1, s2, s3, s4, s5, s6, s7, s8, s9⟩; go_simp; with_reducible rfl); rotate_left; (simp only [Act.put, sqA, sqB, sqC, i64_w, i32_w]; rfl); refine take_ (i := 10) (N := some 45) (v := ?_) (a' := ?_) #[yT,yT,yT,yT,yT,yT,yT,yT,yT,yT,yT,nF,nF,nF,nF,nF] rfl rfl (take_ofW HT_.out HW_.out (by kernel_rfl)) (fun _ _ _ h => h) (Or.inl ⟨by rfl, ?_⟩) hHeld ?_ ?_; rotate_left; (rintro w' ⟨s0, s1, s2, s3, s4, s5, s6, s7, s8, s9⟩; go_simp; with_reducible rfl); rotate_left; (simp only [Act.put, sqA, sqB, sqC, i64_w, i32_w]; rfl); refine one_ (i := 11) (N := some 46) #[yT,yT,yT,yT,yT,yT,yT,yT,yT,yT,yT,yT,nF,nF,nF,nF] rfl rfl (one_of HT_.out (by kernel_rfl)) (by decide) (fun K hK => ?_); refine goesT_ Try.func31 (by kernel_rfl) rfl #[.agg #[.int .i64 ((rd_T26 l0 x9_1).f0), .int .i64 ((rd_T26 l0 x9_1).f1.f0), .int .i64 ((rd_T26 l0 x9_1).f1.f1), .int .i64 ((rd_T26 l0 x9_1).f2), .int .i64 ((rd_T26 l0 x9_1).f3)], .agg #[.int .i64 a1_0, .int .i64 a1_1, .int .i64 a1_2, .int .i64 a1_3, .int .i64 a1_4]] (by rfl) rfl rfl rfl (by (try simp only [List.map_toArray, List.map_cons, List.map_nil]); first | done | rfl | (simp only [List.length_drop, List.length_take]; rfl)) ?_; with_reducible refine (waiting_compare.calls ((rd_T26 l0 x9_1).f0) ((rd_T26 l0 x9_1).f1.f0) ((rd_T26 l0 x9_1).f1.f1) ((rd_T26 l0 x9_1).f2) ((rd_T26 l0 x9_1).f3) a1_0 a1_1 a1_2 a1_3 a1_4 t115 _ A18.out).mono ?_
       rintro e w20 ⟨rfl, hb⟩; refine ⟨_, rfl, ?_⟩; have n0_ := Aside0.mk (blk_below (g := gb111) (o := .cells #[.int .i64 a1_0, .int .i64 a1_1, .int .i64 a1_2, .int .i64 a1_3, .int .i64 a1_4] 26 (0, 0)) (by (with_reducible repeat (first | refine blk_drewN ?_ _ | refine blk_drew ?_ | refine blk_alloc ?_ _)); exact BK111.out) hb); have n1_ := Aside0.mk (below_step (by repeat (first | (with_reducible first | exact HB.out | apply below_alloc | apply pw_below_drewN | apply below_drew1 | refine below_set ?_ GE111.out) | exact HB.out)) hb); clear BK111; clear HB; have BK111 := n0_; have HB := n1_; clear n0_ n1_; (try clear hb)
       (try clear hb2)
       (try clear hk)
       (try clear hi)
       refine hK.out _ _ ⟨(blk_cell BK111.out 0).trans rfl, (blk_cell BK111.out 1).trans rfl, (blk_cell BK111.out 2).trans rfl, (blk_cell BK111.out 3).trans rfl, (blk_cell BK111.out 4).trans rfl, ((HB.out.cell (World.block_lt_of_cell? w _ hw114_0)).trans hw114_0), ((HB.out.cell (World.block_lt_of_cell? w _ hw114_1)).trans hw114_1), ((HB.out.cell (World.block_lt_of_cell? w _ hw114_2)).trans hw114_2), ((HB.out.cell (World.block_lt_of_cell? w _ hw114_3)).trans hw114_3), ((HB.out.cell (World.block_lt_of_cell? w _ hw114_4)).trans hw114_4)⟩ (fun hHeld => ?_); clear hK K; refine norm_ (a' := ?_) ?_ ?_; rotate_left
       ·show Act.put _ (some 46) _ = _
        simp only [Act.put, sqA, sqB, sqC, i64_w, i32_w]; rfl
       refine pure_ (i := 12) (N := some 47) (v := ?_) (a' := ?_) #[yT,yT,yT,yT,yT,yT,yT,yT,yT,yT,yT,yT,yT,nF,nF,nF] rfl rfl (any_of HT_.out (by kernel_rfl)) (fun _ _ _ h => h) (Or.inl ⟨by rfl, ?_⟩) ?_ ?_; rotate_left; (intro w'; go_simp; with_reducible rfl); rotate_left; (simp only [Act.put, sqA, sqB, sqC, i64_w, i32_w]; rfl); refine pure_ (i := 13) (N := some 48) (v := ?_) (a' := ?_) #[yT,yT,yT,yT,yT,yT,yT,yT,yT,yT,yT,yT,yT,yT,nF,nF] rfl rfl (any_of HT_.out (by kernel_rfl)) (fun _ _ _ h => h) (Or.inl ⟨by rfl, ?_⟩) ?_ ?_; rotate_left; (intro w'; go_simp; with_reducible rfl); rotate_left; (simp only [Act.put, sqA, sqB, sqC, i64_w, i32_w]; rfl); refine pure_ (i := 14) (N := some 6) (v := ?_) (a' := ?_) #[yT,yT,yT,yT,yT,yT,yT,yT,yT,yT,yT,yT,yT,yT,yT,nF] rfl rfl (any_of HT_.out (by kernel_rfl)) (fun _ _ _ h => h) (Or.inl ⟨by rfl, ?_⟩) ?_ ?_; rotate_left; (intro w'; go_simp; with_reducible rfl); rotate_left; (simp only [Act.put, sqA, sqB, sqC, i64_w, i32_w]; rfl); refine pure_ (i := 15) (N := some 7) (v := ?_) (a' := ?_) #[yT,yT,yT,yT,yT,yT,yT,yT,yT,yT,yT,yT,yT,yT,yT,yT] rfl rfl (any_of HT_.out (by kernel_rfl)) (fun _ _ _ h => h) (Or.inl ⟨by rfl, ?_⟩) ?_ ?_; rotate_left; (intro w'; go_simp; with_reducible rfl); rotate_left; (simp only [Act.put, sqA, sqB, sqC, i64_w, i32_w]; rfl); refine done_ (done_of HT_.out (by kernel_rfl)) ?_
       try go_wp2
       go_ret2
       exact ⟨by first | rfl | (simp [errW_none, errW_some] <;> rfl) | (simp [*, errW_none, errW_some] <;> rfl), by repeat (first | (with_reducible first | exact HB.out | apply below_alloc | apply pw_below_drewN | apply below_drew1 | refine below_set ?_ GE111.out) | exact HB.out)⟩
      (rw [if_neg c17] at H; exact absurd H (by simp))
     (rw [if_neg c16] at H; exact absurd H (by simp))
    ·rw [if_neg c15] at H; have c15b0 : decide (x9_1 < (l0.length : Int)) = false := decide_eq_false c15; clear c15; simp only [Option.some.injEq, Prod.mk.injEq] at H; obtain ⟨rfl, rfl⟩ := H
     try go_wp2
     have n0_ := Aside0.mk (blk_drew BK111.out); have n1_ := Aside0.mk (below_drew1 HB.out); clear BK111; clear HB; have BK111 := n0_; have HB := n1_; clear n0_ n1_; refine start_ (n := 16) (S := fun w' => True) (ds := []) #[nF,nF,nF,nF,nF,nF,nF,nF,nF,nF,nF,nF,nF,nF,nF,nF] (by kernel_rfl) rfl rfl trivial (fun hHeld => ?_); refine with_tabW api_Wait_30.tab8 api_Wait_30.bits8 (fun HT_ HW_ => ?_); generalize wr.drew = w21 at BK111 HB hHeld ⊢; refine pure_ (i := 0) (N := some 35) (v := ?_) (a' := ?_) #[yT,nF,nF,nF,nF,nF,nF,nF,nF,nF,nF,nF,nF,nF,nF,nF] rfl rfl (any_of HT_.out (by kernel_rfl)) (fun _ _ _ h => h) (Or.inl ⟨by rfl, ?_⟩) ?_ ?_; rotate_left; (intro w'; go_simp; with_reducible rfl); rotate_left; (simp only [Act.put, sqA, sqB, sqC, i64_w, i32_w]; rfl); refine pure_ (i := 1) (N := some 36) (v := ?_) (a' := ?_) #[yT,yT,nF,nF,nF,nF,nF,nF,nF,nF,nF,nF,nF,nF,nF,nF] rfl rfl (any_of HT_.out (by kernel_rfl)) (fun _ _ _ h => h) (Or.inl ⟨by rfl, ?_⟩) ?_ ?_; rotate_left; (intro w'; go_simp; with_reducible rfl); rotate_left; (simp only [Act.put, sqA, sqB, sqC, i64_w, i32_w]; rfl); refine pure_ (i := 2) (N := some 37) (v := ?_) (a' := ?_) #[yT,yT,yT,nF,nF,nF,nF,nF,nF,nF,nF,nF,nF,nF,nF,nF] rfl rfl (any_of HT_.out (by kernel_rfl)) (fun _ _ _ h => h) (Or.inl ⟨by rfl, ?_⟩) ?_ ?_; rotate_left; (intro w'; go_simp; with_reducible rfl); rotate_left; (simp only [Act.put, sqA, sqB, sqC, i64_w, i32_w]; rfl); refine pure_ (i := 3) (N := some 38) (v := ?_) (a' := ?_) #[yT,yT,yT,yT,nF,nF,nF,nF,nF,nF,nF,nF,nF,nF,nF,nF] rfl rfl (any_of HT_.out (by kernel_rfl)) (fun _ _ _ h => h) (Or.inl ⟨by rfl, ?_⟩) ?_ ?_; rotate_left; (intro w'; go_simp; with_reducible rfl); rotate_left; (simp only [Act.put, sqA, sqB, sqC, i64_w, i32_w]; rfl); refine pure_ (i := 4) (N := some 39) (v := ?_) (a' := ?_) #[yT,yT,yT,yT,yT,nF,nF,nF,nF,nF,nF,nF,nF,nF,nF,nF] rfl rfl (any_of HT_.out (by kernel_rfl)) (fun _ _ _ h => h) (Or.inl ⟨by rfl, ?_⟩) ?_ ?_; rotate_left; (intro w'; go_simp; with_reducible rfl); rotate_left; (simp only [Act.put, sqA, sqB, sqC, i64_w, i32_w]; rfl); refine pure_ (i := 5) (N := some 40) (v := undef) (a' := ?_) #[yT,yT,yT,yT,yT,yT,nF,nF,nF,nF,nF,nF,nF,nF,nF,nF] rfl rfl (any_of HT_.out (by kernel_rfl)) (fun _ _ _ h => h) (Or.inr ⟨by rfl, rfl⟩) ?_ ?_; rotate_left; (simp only [Act.put, sqA, sqB, sqC, i64_w, i32_w]; rfl); refine pure_ (i := 6) (N := some 41) (v := undef) (a' := ?_) #[yT,yT,yT,yT,yT,yT,yT,nF,nF,nF,nF,nF,nF,nF,nF,nF] rfl rfl (any_of HT_.out (by kernel_rfl)) (fun _ _ _ h => h) (Or.inr ⟨by rfl, rfl⟩) ?_ ?_; rotate_left; (simp only [Act.put, sqA, sqB, sqC, i64_w, i32_w]; rfl); refine pure_ (i := 7) (N := some 42) (v := undef) (a' := ?_) #[yT,yT,yT,yT,yT,yT,yT,yT,nF,nF,nF,nF,nF,nF,nF,nF] rfl rfl (any_of HT_.out (by kernel_rfl)) (fun _ _ _ h => h) (Or.inr ⟨by rfl, rfl⟩) ?_ ?_; rotate_left; (simp only [Act.put, sqA, sqB, sqC, i64_w, i32_w]; rfl); refine pure_ (i := 8) (N := some 43) (v := undef) (a' := ?_) #[yT,yT,yT,yT,yT,yT,yT,yT,yT,nF,nF,nF,nF,nF,nF,nF] rfl rfl (any_of HT_.out (by kernel_rfl)) (fun _ _ _ h => h) (Or.inr ⟨by rfl, rfl⟩) ?_ ?_; rotate_left; (simp only [Act.put, sqA, sqB, sqC, i64_w, i32_w]; rfl); refine pure_ (i := 9) (N := some 44) (v := undef) (a' := ?_) #[yT,yT,yT,yT,yT,yT,yT,yT,yT,yT,nF,nF,nF,nF,nF,nF] rfl rfl (any_of HT_.out (by kernel_rfl)) (fun _ _ _ h => h) (Or.inr ⟨by rfl, rfl⟩) ?_ ?_; rotate_left; (simp only [Act.put, sqA, sqB, sqC, i64_w, i32_w]; rfl); refine pure_ (i := 10) (N := some 45) (v := undef) (a' := ?_) #[yT,yT,yT,yT,yT,yT,yT,yT,yT,yT,yT,nF,nF,nF,nF,nF] rfl rfl (any_of HT_.out (by kernel_rfl)) (fun _ _ _ h => h) (Or.inr ⟨by rfl, rfl⟩) ?_ ?_; rotate_left; (simp only [Act.put, sqA, sqB, sqC, i64_w, i32_w]; rfl); refine pure_ (i := 11) (N := some 46) (v := undef) (a' := ?_) #[yT,yT,yT,yT,yT,yT,yT,yT,yT,yT,yT,yT,nF,nF,nF,nF] rfl rfl (any_of HT_.out (by kernel_rfl)) (fun _ _ _ h => h) (Or.inr ⟨by rfl, rfl⟩) ?_ ?_; rotate_left; (simp only [Act.put, sqA, sqB, sqC, i64_w, i32_w]; rfl); refine pure_ (i := 12) (N := some 47) (v := undef) (a' := ?_) #[yT,yT,yT,yT,yT,yT,yT,yT,yT,yT,yT,yT,yT,nF,nF,nF] rfl rfl (any_of HT_.out (by kernel_rfl)) (fun _ _ _ h => h) (Or.inr ⟨by rfl, rfl⟩) ?_ ?_; rotate_left; (simp only [Act.put, sqA, sqB, sqC, i64_w, i32_w]; rfl); refine pure_ (i := 13) (N := some 48) (v := ?_) (a' := ?_) #[yT,yT,yT,yT,yT,yT,yT,yT,yT,yT,yT,yT,yT,yT,nF,nF] rfl rfl (any_of HT_.out (by kernel_rfl)) (fun _ _ _ h => h) (Or.inl ⟨by rfl, ?_⟩) ?_ ?_; rotate_left; (intro w'; go_simp; with_reducible rfl); rotate_left; (simp only [Act.put, sqA, sqB, sqC, i64_w, i32_w]; rfl); refine pure_ (i := 14) (N := some 6) (v := ?_) (a' := ?_) #[yT,yT,yT,yT,yT,yT,yT,yT,yT,yT,yT,yT,yT,yT,yT,nF] rfl rfl (any_of HT_.out (by kernel_rfl)) (fun _ _ _ h => h) (Or.inl ⟨by rfl, ?_⟩) ?_ ?_; rotate_left; (intro w'; go_simp; with_reducible rfl); rotate_left; (simp only [Act.put, sqA, sqB, sqC, i64_w, i32_w]; rfl); refine pure_ (i := 15) (N := some 7) (v := ?_) (a' := ?_) #[yT,yT,yT,yT,yT,yT,yT,yT,yT,yT,yT,yT,yT,yT,yT,yT] rfl rfl (any_of HT_.out (by kernel_rfl)) (fun _ _ _ h => h) (Or.inl ⟨by rfl, ?_⟩) ?_ ?_; rotate_left; (intro w'; go_simp; with_reducible rfl); rotate_left; (simp only [Act.put, sqA, sqB, sqC, i64_w, i32_w]; rfl); refine done_ (done_of HT_.out (by kernel_rfl)) ?_
     try go_wp2
     go_ret2
     exact ⟨by first | rfl | (simp [errW_none, errW_some] <;> rfl) | (simp [*, errW_none, errW_some] <;> rfl), by repeat (first | (with_reducible first | exact HB.out | apply below_alloc | apply pw_below_drewN | apply below_drew1 | refine below_set ?_ GE111.out) | exact HB.out)⟩
end Go.Proofs.Ytjffojmpfdoodaa.X
/-
  Rows of elements of several cells in a block that is known whole: copy, clear and append by what they leave in it. No program in sight.
-/
set_option linter.unusedVariables false
set_option linter.unusedSimpArgs false
namespace Go.Proofs.Ytjffojmpfdoodaa.Blk
open Go Go.RowKit
variable {P : Program}

theorem add_at (g o j : Nat) : (⟨g, o, none⟩ : Addr).add j = ⟨g, o + j, none⟩ := by unfold Addr.add; split <;> simp_all
theorem run_copy_blk (w : World) (tS ty e : TypeId) (size : Nat) (ht : P.underlying tS = some (.slice e)) (hsz : (P.info? e).map (·.size) = some size)
    (g off dLen dCap : Nat) (ad : Addr) (sLen sCap n : Nat) (cur cs : List Value) (t : TypeId) (hg : w.heap[g]? = some (.cells cur.toArray t (0, 0)))
    (hn : Nat.min sLen dLen = n) (hcs : cs.length = n * size) (hsrc : ∀ j v, cs[j]? = some v → w.cell? (ad.add j) = some v) (hfit : off + cs.length ≤ cur.length) (h1 : ∀ v ∈ cs, v.oneCell' = true) :
    (Builtin.copy_ #[tS, tS] ty #[.slice (some ⟨g, off, none⟩) dLen dCap, .slice (some ad) sLen sCap]).run P w = .ok (goInt n) (w.setRow g (splice cur off cs).toArray) := by
 obtain ⟨i0, hi, hs⟩ := Option.map_eq_some_iff.1 hsz; subst hs; have h2 : (Builtin.firstCells i0.size n (.slice (some ad) sLen sCap)).run P w = .ok cs.toArray w := run_firstCells_some w i0.size n ad sLen sCap cs hcs hsrc; have h3 : (storeCells ⟨g, off, none⟩ cs 0).run P w = _ := run_storeCells_at P g off t cs 0 cur.toArray w hg (by simpa using hfit) h1; simp only [Nat.add_zero, List.toList_toArray] at h3; simp [Builtin.copy_, run_underlying ht, sizeOf, typeInfo, hi, Builtin.lenOf, hn, h2, h3, splice]
theorem run_clear_blk (w : World) (tS ty e : TypeId) (z : Value) (ht : P.underlying tS = some (.slice e)) (hv : ∀ w, (zeroValue e).run P w = .ok z w)
    (g off n c : Nat) (hn : 0 < n) (cur zs : List Value) (t : TypeId) (hg : w.heap[g]? = some (.cells cur.toArray t (0, 0))) (hz : (Builtin.zeroCells z.cells n).toList = zs)
    (hfit : off + zs.length ≤ cur.length) (h1 : ∀ v ∈ zs, v.oneCell' = true) :
    (Builtin.clear_ #[tS] ty #[.slice (some ⟨g, off, none⟩) n c]).run P w = .ok (.tuple #[]) (w.setRow g (splice cur off zs).toArray) := by
 have h3 : (storeCells ⟨g, off, none⟩ zs 0).run P w = _ := run_storeCells_at P g off t zs 0 cur.toArray w hg (by simpa using hfit) h1; simp only [Nat.add_zero, List.toList_toArray] at h3; cases n with
 | zero => exact absurd hn (by omega)
 | succ n => simp [Builtin.clear_, run_underlying ht, hv, hz, h3, splice]
/-- append where there is room, in a block known whole. -/
theorem run_append_blk (w : World) (tS ty e : TypeId) (i0 : TypeInfo) (ht : P.underlying tS = some (.slice e)) (hi : P.info? e = some i0)
    (g n cap : Nat) (ad : Addr) (m c : Nat) (cur news : List Value) (t : TypeId) (hg : w.heap[g]? = some (.cells cur.toArray t (0, 0)))
    (hl : news.length = m * i0.size) (hnews : ∀ j u, news[j]? = some u → w.cell? (ad.add j) = some u) (h1 : ∀ u ∈ news, u.oneCell' = true)
    (hroom : n + m ≤ cap) (hfit : n * i0.size + news.length ≤ cur.length) :
    (Builtin.append_ #[tS, tS] ty #[.slice (some ⟨g, 0, none⟩) n cap, .slice (some ad) m c]).run P w = .ok (.slice (some ⟨g, 0, none⟩) (n + m) cap) (w.setRow g (splice cur (n * i0.size) news).toArray) := by
 have h2 : (Builtin.firstCells i0.size m (.slice (some ad) m c)).run P w = .ok news.toArray w := run_firstCells_some w i0.size m ad m c news hl hnews; have h3 : (storeCells ⟨g, n * i0.size, none⟩ news 0).run P w = _ := run_storeCells_at P g (n * i0.size) t news 0 cur.toArray w hg (by simpa using hfit) h1; simp only [Nat.add_zero, List.toList_toArray] at h3; simp [Builtin.append_, run_underlying ht, sizeOf, typeInfo, hi, Builtin.lenOf, hroom, h2, h3, splice, add_at]
theorem setRow_block (w : World) (g : Nat) (cs cur : List Value) (t : TypeId) (fr : Nat × Nat) (hg : w.heap[g]? = some (.cells cur.toArray t fr)) : (w.setRow g cs.toArray).heap[g]? = some (.cells cs.toArray t fr) := setRow_heap w g _ _ t fr hg
theorem setRow_below {B : Nat} {w0 w : World} (h : Below B w0 w) {g : Nat} (hg : B ≤ g) (cs : Array Value) : Below B w0 (w.setRow g cs) := below_setRow h hg cs
theorem setRow_far (w : World) (g k : Nat) (cs : Array Value) (hk : k ≠ g) : (w.setRow g cs).heap[k]? = w.heap[k]? := setRow_other w g k cs hk
theorem setRow_grown {w w0 : World} {g : Nat} (h : w0.grownBy w (some g)) (cs : Array Value) : w0.grownBy (w.setRow g cs) (some g) :=
  ⟨h.os, h.tape, h.output, by simpa [World.setRow] using h.size, fun k hk hne => (setRow_far w g k cs (fun e => hne (by rw [e]))).trans (h.block k hk hne)⟩
theorem drew_grown (w : World) (row : Option Nat) : w.grownBy w.drew row := ⟨rfl, rfl, rfl, Nat.le_refl _, fun _ _ _ => rfl⟩
theorem setRow_grown1 (w : World) (g : Nat) (cs : Array Value) : w.grownBy (w.drew.setRow g cs) (some g) := setRow_grown (drew_grown w _) cs
theorem setRow_grown2 (w : World) (g : Nat) (cs cs' : Array Value) : w.grownBy ((w.drew.setRow g cs).setRow g cs') (some g) := setRow_grown (setRow_grown1 w g cs) cs'
theorem below_of_grown {base : Nat} {w w' : World} {row : Option Nat} (h : w.grownBy w' row) (hb : base ≤ w.heap.size) (hr : ∀ k, row = some k → base ≤ k) : Below base w w' := (Below.refl base w).grown h hb hr
/-- A row of one's own, told by its whole block. -/
theorem own_of_block {w : World} {base : Nat} {e : TypeId} {size g n cap : Nat} {cur xs : List Value} (hb : base ≤ g) (hg : w.heap[g]? = some (.cells cur.toArray e (0, 0))) (hnc : n ≤ cap) (hc : cap ≤ maxLen)
    (hs : cur.length = cap * size) (hx : cur.take (n * size) = xs) : w.ownsRow base e size (.slice (some ⟨g, 0, none⟩) n cap) n xs := by
 refine ⟨?_, .inr ⟨g, cap, cur.toArray, rfl, hb, hg, hnc, hc, by simpa using hs, by simpa using hx⟩⟩; rw [← hx, List.length_take, hs]; exact Nat.min_eq_left (Nat.mul_le_mul_right _ hnc)
theorem block_of_own {w : World} {base : Nat} {e : TypeId} {size n : Nat} {v : Value} {xs : List Value} (h : w.ownsRow base e size v n xs) (hn : 0 < n) :
    ∃ (g cap : Nat) (cur : List Value), v = .slice (some ⟨g, 0, none⟩) n cap ∧ base ≤ g ∧ w.heap[g]? = some (.cells cur.toArray e (0, 0)) ∧ n ≤ cap ∧ cap ≤ maxLen ∧ cur.length = cap * size ∧ cur.take (n * size) = xs := by
 rcases h.2 with ⟨_, h0⟩ | ⟨g, cap, cur, hv, hb, hg, hnc, hc, hs, hx⟩
 (omega); (exact ⟨g, cap, cur.toList, hv, hb, by simpa using hg, hnc, hc, by simpa using hs, hx⟩)
theorem splice_at {α : Type} (L cs : List α) (off : Nat) (h : off ≤ L.length) : (splice L off cs).take (off + cs.length) = L.take off ++ cs := by
 have hl : (L.take off).length = off := by simp; omega
 unfold splice
 rw [← List.append_assoc, List.take_append_of_le_length (by simp; omega)]; exact List.take_of_length_le (by simp; omega)
/-- The operation copy, where its run is known. -/
theorem wp_copy_run (w : World) {o : Oper} {a : Act} {K : Act → World → Prop} {Q : Exit → Act → World → Prop} (d s : Operand) (t t' : TypeId)
    (ho : o.op = .call { callee := .builtin .copy, args := #[d, s], argTypes := #[t, t'] }) (v u : Value) (hd : a.eval d = v) (hs : a.eval s = u) {v' : Value} {w' : World}
    (hr : (Builtin.copy_ #[t, t'] o.type #[v, u]).run P w = .ok v' w') (h : K (a.put o.dst v') w') : o.wp P a w K Q := by
 unfold Oper.wp execOp
 simp only [ho, resolve, invoke, builtin, Sem.run_bind, Sem.run_pure, Result.andThen_ok, List.map_toArray, List.map_cons, List.map_nil, hd, hs, hr]; exact h
theorem wpList_copy_run (w : World) {ops : Array Oper} {rest : List Oper} {o : Oper} {a : Act} {Q : Exit → Act → World → Prop} (hgd : o.guard = none) (d s : Operand) (t t' : TypeId)
    (ho : o.op = .call { callee := .builtin .copy, args := #[d, s], argTypes := #[t, t'] }) (v u : Value) (hd : a.eval d = v) (hs : a.eval s = u) {v' : Value} {w' : World}
    (hr : (Builtin.copy_ #[t, t'] o.type #[v, u]).run P w = .ok v' w') (h : wpList P ops Q rest (a.put o.dst v') w') : wpList P ops Q (o :: rest) a w :=
  wpList_plain hgd fun _ hK => wp_copy_run w d s t t' ho v u hd hs hr (hK _ _ h)
theorem step_copy_run {ops : Array Oper} {o : Oper} {a : Act} {w : World} {K : Act → World → Prop} {Q : Exit → Act → World → Prop} {E : Prop}
    (hg : o.guard = none) (d x : Operand) (dT sT : TypeId) (hop : o.op = Op.call { callee := Callee.builtin Builtin.copy, args := #[d, x], argTypes := #[dT, sT] })
    (v u : Value) (hd : a.eval d = v) (hx : a.eval x = u) {v' : Value} {w' : World} (hr : (Builtin.copy_ #[dT, sT] o.type #[v, u]).run P w = .ok v' w') (hK : K (a.put o.dst v') w') :
    if Region.wanted o (yielded ops a.tmps) = true then Oper.wp P o a w K Q else E := by
 have hw : Region.wanted o (yielded ops a.tmps) = true := by simp [Region.wanted, hg]
 rw [if_pos hw]; exact wp_copy_run w d x dT sT hop v u hd hx hr hK
theorem wp_clear_run (w : World) {o : Oper} {a : Act} {K : Act → World → Prop} {Q : Exit → Act → World → Prop} (s : Operand) (t : TypeId)
    (ho : o.op = .call { callee := .builtin .clear, args := #[s], argTypes := #[t] }) (u : Value) (hs : a.eval s = u) {v' : Value} {w' : World}
    (hr : (Builtin.clear_ #[t] o.type #[u]).run P w = .ok v' w') (h : K (a.put o.dst v') w') : o.wp P a w K Q := by
 unfold Oper.wp execOp
 simp only [ho, resolve, invoke, builtin, Sem.run_bind, Sem.run_pure, Result.andThen_ok, List.map_toArray, List.map_cons, List.map_nil, hs, hr]; exact h
theorem wpList_clear_run (w : World) {ops : Array Oper} {rest : List Oper} {o : Oper} {a : Act} {Q : Exit → Act → World → Prop} (hgd : o.guard = none) (s : Operand) (t : TypeId)
    (ho : o.op = .call { callee := .builtin .clear, args := #[s], argTypes := #[t] }) (u : Value) (hs : a.eval s = u) {v' : Value} {w' : World}
    (hr : (Builtin.clear_ #[t] o.type #[u]).run P w = .ok v' w') (h : wpList P ops Q rest (a.put o.dst v') w') : wpList P ops Q (o :: rest) a w :=
  wpList_plain hgd fun _ hK => wp_clear_run w s t ho u hs hr (hK _ _ h)
/-- The operation append, where its run is known. -/
theorem wp_append_run (w : World) {o : Oper} {a : Act} {K : Act → World → Prop} {Q : Exit → Act → World → Prop} (d s : Operand) (t t' : TypeId)
    (ho : o.op = .call { callee := .builtin .append, args := #[d, s], argTypes := #[t, t'] }) (v u : Value) (hd : a.eval d = v) (hs : a.eval s = u) {v' : Value} {w' : World}
    (hr : (Builtin.append_ #[t, t'] o.type #[v, u]).run P w = .ok v' w') (h : K (a.put o.dst v') w') : o.wp P a w K Q := by
 unfold Oper.wp execOp
 simp only [ho, resolve, invoke, builtin, Sem.run_bind, Sem.run_pure, Result.andThen_ok, List.map_toArray, List.map_cons, List.map_nil, hd, hs, hr]; exact h
theorem wpList_append_run (w : World) {ops : Array Oper} {rest : List Oper} {o : Oper} {a : Act} {Q : Exit → Act → World → Prop} (hgd : o.guard = none) (d s : Operand) (t t' : TypeId)
    (ho : o.op = .call { callee := .builtin .append, args := #[d, s], argTypes := #[t, t'] }) (v u : Value) (hd : a.eval d = v) (hs : a.eval s = u) {v' : Value} {w' : World}
    (hr : (Builtin.append_ #[t, t'] o.type #[v, u]).run P w = .ok v' w') (h : wpList P ops Q rest (a.put o.dst v') w') : wpList P ops Q (o :: rest) a w :=
  wpList_plain hgd fun _ hK => wp_append_run w d s t t' ho v u hd hs hr (hK _ _ h)
theorem step_append_run {ops : Array Oper} {o : Oper} {a : Act} {w : World} {K : Act → World → Prop} {Q : Exit → Act → World → Prop} {E : Prop}
    (hg : o.guard = none) (d x : Operand) (dT sT : TypeId) (hop : o.op = Op.call { callee := Callee.builtin Builtin.append, args := #[d, x], argTypes := #[dT, sT] })
    (v u : Value) (hd : a.eval d = v) (hx : a.eval x = u) {v' : Value} {w' : World} (hr : (Builtin.append_ #[dT, sT] o.type #[v, u]).run P w = .ok v' w') (hK : K (a.put o.dst v') w') :
    if Region.wanted o (yielded ops a.tmps) = true then Oper.wp P o a w K Q else E := by
 have hw : Region.wanted o (yielded ops a.tmps) = true := by simp [Region.wanted, hg]
 rw [if_pos hw]; exact wp_append_run w d x dT sT hop v u hd hx hr hK
end Go.Proofs.Ytjffojmpfdoodaa.Blk
/-
  slices.Delete of one element from a row of the call's own; slices.Clone.
-/

set_option linter.unusedVariables false
set_option linter.unusedSimpArgs false
namespace Go.Proofs.Ytjffojmpfdoodaa.Del
open Go Go.RowKit Go.Proofs.Ytjffojmpfdoodaa.Blk

theorem info : (Try.prog.info? 26).map (fun i => (i.zero, i.size, i.bytes)) = some (some (.agg #[(.int .i64 0), (.int .i64 0), (.int .i64 0), (.int .i64 0), (.int .i64 0)]), 5, 40) := by kernel_rfl
def ZS : List Value := [.int .i64 0, .int .i64 0, .int .i64 0, .int .i64 0, .int .i64 0]
theorem zeros1 : (Builtin.zeroCells (.agg #[(.int .i64 0), (.int .i64 0), (.int .i64 0), (.int .i64 0), (.int .i64 0)] : Value).cells 1).toList = ZS := by kernel_rfl
theorem zeroE (w : World) : (zeroValue 26).run Try.prog w = .ok (.agg #[(.int .i64 0), (.int .i64 0), (.int .i64 0), (.int .i64 0), (.int .i64 0)]) w := by kernel_rfl
set_option maxHeartbeats 4000000 in
set_option maxRecDepth 100000 in
theorem walk (w : World) (g n c i : Nat) (cur tl zs : List Value) (hi : i < n) (hnc : n ≤ c) (hc63 : c ≤ 9223372036854775807)
    (hg : w.heap[g]? = some (.cells cur.toArray 26 (0, 0))) (hcur : cur.length = c * 5)
    (htl : (cur.drop ((i + 1) * 5)).take ((n - (i + 1)) * 5) = tl) (h1t : ∀ v ∈ tl, v.oneCell' = true) (hzs : zs = ZS) :
    Calls Try.prog 34 #[.slice (some ⟨g, 0, none⟩) n c, .int .i64 i, .int .i64 ((i : Int) + 1)] w fun e w' =>
      e = .returned (.slice (some ⟨g, 0, none⟩) (n - 1) c) ∧ w' = w.drew.setRow g (splice (splice cur (i * 5) tl) ((n - 1) * 5) zs).toArray := by
 obtain ⟨i0, hi0, hzz⟩ := Option.map_eq_some_iff.1 info; simp only [Prod.mk.injEq] at hzz; obtain ⟨hz0, hz1, hz2⟩ := hzz; have htll : tl.length = (n - (i + 1)) * 5 := by rw [← htl, List.length_take, List.length_drop, hcur]; omega
 have hzl : zs.length = 1 * 5 := by subst hzs; rfl
 have hz1c : ∀ v ∈ zs, v.oneCell' = true := by
  have hall : zs.all (·.oneCell') = true := by subst hzs; rfl
  exact fun v hv => List.all_eq_true.mp hall v hv
 have hzs' : (Builtin.zeroCells (.agg #[(.int .i64 0), (.int .i64 0), (.int .i64 0), (.int .i64 0), (.int .i64 0)] : Value).cells 1).toList = zs := zeros1.trans hzs.symm; have hgd : w.drew.heap[g]? = some (.cells cur.toArray 26 (0, 0)) := hg; have hn1 : i + (n - (i + 1)) = n - 1 := by omega
 have hsrc : ∀ j v, tl[j]? = some v → w.drew.cell? ((⟨g, (i + 1) * 5, none⟩ : Addr).add j) = some v := fun j v hj => by
  rw [add_at, cell_of_row _ _ _ _ _ _ hgd]; rw [← htl, List.getElem?_take] at hj; split at hj
  ·rw [List.getElem?_drop] at hj; simpa using hj
  (cases hj)
 have hap0 : ∀ ty ad sc, (∀ j v, tl[j]? = some v → w.drew.cell? (ad.add j) = some v) → (Builtin.append_ #[22, 22] ty #[.slice (some ⟨g, 0, none⟩) i c, .slice (some ad) (n - (i + 1)) sc]).run Try.prog w.drew = .ok (.slice (some ⟨g, 0, none⟩) (n - 1) c) (w.drew.setRow g (splice cur (i * 5) tl).toArray) := fun ty ad sc hs => by
  have h := run_append_blk (P := Try.prog) w.drew 22 ty 26 i0 Try.underlying22 hi0 g i c ad (n - (i + 1)) sc cur tl 26 hgd (by rw [htll, hz1]) hs h1t (by omega) (by rw [htll, hz1, hcur]; omega); rw [hn1, hz1] at h; exact h
 have hap : ∀ ty sc, (Builtin.append_ #[22, 22] ty #[.slice (some ⟨g, 0, none⟩) i c, .slice (some ⟨g, (i + 1) * 5, none⟩) (n - (i + 1)) sc]).run Try.prog w.drew = .ok (.slice (some ⟨g, 0, none⟩) (n - 1) c) (w.drew.setRow g (splice cur (i * 5) tl).toArray) := fun ty sc => hap0 ty _ sc hsrc
 obtain ⟨C1, hC1⟩ : ∃ C1, C1 = splice cur (i * 5) tl := ⟨_, rfl⟩
 rw [← hC1] at hap ⊢; have hC1l : C1.length = c * 5 := by rw [hC1, length_splice _ _ _ (by rw [htll, hcur]; omega), hcur]
 obtain ⟨W1, hW1⟩ : ∃ W1, W1 = w.drew.setRow g C1.toArray := ⟨_, rfl⟩
 have hg1 : W1.heap[g]? = some (.cells C1.toArray 26 (0, 0)) := by rw [hW1]; exact setRow_block _ _ _ _ _ _ hgd
 have hcl : ∀ ty cc, (Builtin.clear_ #[22] ty #[.slice (some ⟨g, (n - 1) * 5, none⟩) 1 cc]).run Try.prog W1 = .ok (.tuple #[]) (w.drew.setRow g (splice C1 ((n - 1) * 5) zs).toArray) := fun ty cc => by
  have h := run_clear_blk W1 22 ty 26 _ Try.underlying22 zeroE g ((n - 1) * 5) 1 cc (by omega) C1 zs 26 hg1 hzs' (by rw [hzl, hC1l]; omega) hz1c; rw [h, hW1, setRow_setRow]
 have hclE : c = i + 1 → ∀ ty cc, (Builtin.clear_ #[22] ty #[.slice (some ⟨g, (n - 1) * 5, none⟩) 1 cc]).run Try.prog w.drew = .ok (.tuple #[]) (w.drew.setRow g (splice C1 ((n - 1) * 5) zs).toArray) := fun hci ty cc => by
  have ht0 : tl = [] := List.eq_nil_of_length_eq_zero (by rw [htll, show n - (i + 1) = 0 by omega, Nat.zero_mul]); have hcc : C1 = cur := by rw [hC1, ht0]; simp [splice]
  rw [hcc]; exact run_clear_blk w.drew 22 ty 26 _ Try.underlying22 zeroE g ((n - 1) * 5) 1 cc (by omega) cur zs 26 hgd hzs' (by rw [hzl, hcur]; omega) hz1c
 rw [← hW1] at hap; have ha1 : ((i : Int) + 1).toNat = i + 1 := by omega
 have ha2 : (0 : Int) ≤ (i : Int) + 1 := by omega
 have ha3 : (i : Int) + 1 ≤ n := by omega
 have ha4 : ((i : Int) == (i : Int) + 1) = false := by rw [beq_eq_false_iff_ne]; omega
 have ha9 : (i : Int) ≤ (i : Int) + 1 := by omega
 have ha10 : i ≤ c := by omega
 have ha11 : i + 1 ≤ c := by omega
 have ha5 : n - (n - 1) = 1 := by omega
 have ha6 : ¬ (c = n - 1) := by omega
 have ha7 : n - 1 ≤ n := by omega
 have ha8 : n - 1 ≤ c := by omega
 clear hsrc hap0 hg hcur htl hzs hzs' htll hzl hgd hn1 hC1 hC1l hW1 hg1 hi0 hz0 hz1 hz2; rcases Decidable.em (c = i + 1) with hci | hci
 ·obtain rfl : n = i + 1 := by omega
  subst hci; have hcl1 := hclE rfl; have hb1 : i + 1 - 1 = i := by omega
  rw [hb1] at hcl1 ⊢; clear hap hcl hclE ha5 ha6 ha7 ha8 hb1; go_enter Try.func34, Try.ntmps34; go_wp2_with fail
  go_region_law (fail)
  go_wp2_with (at_builtin; refine wpList_clear_run _ rfl _ 22 rfl _ rfl (hcl1 _ _) ?_)
  go_ret; exact ⟨rfl, rfl⟩
 ·clear hclE; go_enter Try.func34, Try.ntmps34; go_wp2_with fail
  go_region_law (go_loud (refine step_append_run rfl (.tmp 22) (.tmp 25) 22 22 rfl (.slice (some ⟨g, 0, none⟩) i c) (.slice (some ⟨g, (i + 1) * 5, none⟩) (n - (i + 1)) (c - (i + 1))) (by simp [Act.eval, Act.put]) (by simp [Act.eval, Act.put]) (hap _ _) ?_))
  go_wp2_with (at_builtin; refine wpList_clear_run _ rfl _ 22 rfl _ rfl (hcl _ _) ?_)
  go_ret; exact ⟨rfl, rfl⟩
/-- slices.Delete(s, i, i+1), s a row of the call's own. -/
theorem del (w : World) (base n c i : Nat) (A : Option Addr) (xs : List Value) (hi : i < n)
    (ho : w.ownsRow base 26 5 (.slice A n c) n xs) (h1x : ∀ v ∈ xs, v.oneCell' = true) :
    Calls Try.prog 34 #[.slice A n c, .int .i64 i, .int .i64 ((i : Int) + 1)] w fun e w' =>
      ∃ v' : Value, e = .returned v' ∧ w'.ownsRow base 26 5 v' (n - 1) (xs.take (i * 5) ++ xs.drop ((i + 1) * 5)) ∧ w.grownBy w' (Value.slice A n c).ownBlock ∧ v'.ownBlock = (Value.slice A n c).ownBlock := by
 obtain ⟨g, cap, cur, he, hb, hg, hnc, hc, hcl, hx⟩ := block_of_own ho (by omega); simp only [Value.slice.injEq, true_and] at he; obtain ⟨rfl, rfl⟩ := he
 have hm1 : (cur.drop ((i + 1) * 5)).take ((n - (i + 1)) * 5) = xs.drop ((i + 1) * 5) := by
  rw [← hx, List.drop_take]; congr 1
  omega
 have hp1 : cur.take (i * 5) = xs.take (i * 5) := by
  rw [← hx, List.take_take]; congr 1
  omega
 have h1m : ∀ v ∈ xs.drop ((i + 1) * 5), v.oneCell' = true := fun v hv => h1x v (List.mem_of_mem_drop hv)
 have hc63 : c ≤ 9223372036854775807 := by unfold maxLen at hc; omega
 refine (walk w g n c i cur _ ZS hi hnc hc63 hg hcl hm1 h1m rfl).mono ?_; rintro e w' ⟨rfl, rfl⟩
 have hml : (xs.drop ((i + 1) * 5)).length = (n - (i + 1)) * 5 := by
  rw [← hm1, List.length_take, List.length_drop, hcl]; omega
 have hzl : ZS.length = 5 := rfl; have hl1 : (splice cur (i * 5) (xs.drop ((i + 1) * 5))).length = c * 5 := by rw [length_splice _ _ _ (by rw [hml, hcl]; omega), hcl]
 have hgd : w.drew.heap[g]? = some (.cells cur.toArray 26 (0, 0)) := hg; have hg2 := setRow_block w.drew g (splice (splice cur (i * 5) (xs.drop ((i + 1) * 5))) ((n - 1) * 5) ZS) _ _ _ hgd; refine ⟨_, rfl, own_of_block hb hg2 (by omega) hc ?_ ?_, setRow_grown1 w g _, rfl⟩; (rw [length_splice _ _ _ (by rw [hl1, hzl]; omega), hl1])
 ·have e0 : (splice (splice cur (i * 5) (xs.drop ((i + 1) * 5))) ((n - 1) * 5) ZS).take ((n - 1) * 5) = (splice cur (i * 5) (xs.drop ((i + 1) * 5))).take ((n - 1) * 5) := by
   have hl : ((splice cur (i * 5) (xs.drop ((i + 1) * 5))).take ((n - 1) * 5)).length = (n - 1) * 5 := by rw [List.length_take, hl1]; omega
   rw [show splice (splice cur (i * 5) (xs.drop ((i + 1) * 5))) ((n - 1) * 5) ZS = (splice cur (i * 5) (xs.drop ((i + 1) * 5))).take ((n - 1) * 5) ++ (ZS ++ (splice cur (i * 5) (xs.drop ((i + 1) * 5))).drop ((n - 1) * 5 + ZS.length)) from rfl]; rw [List.take_append_of_le_length (by omega), List.take_of_length_le (by omega)]
  have e1 := splice_at cur (xs.drop ((i + 1) * 5)) (i * 5) (by rw [hcl]; omega); rw [hml, show i * 5 + (n - (i + 1)) * 5 = (n - 1) * 5 by omega, hp1] at e1; rw [e0, e1]
def CloneEnd (base n : Nat) (xs : List Value) (w : World) (e : Ending) (w' : World) : Prop := ∃ v' : Value, e = .returned v' ∧ w'.ownsRow base 26 5 v' n xs ∧ Below base w w'

set_option maxHeartbeats 4000000 in
set_option maxRecDepth 100000 in
/-- slices.Clone. -/
theorem clone (w : World) (n c : Nat) (A : Option Addr) (xs : List Value) (hbig : n * 40 ≤ 140737488355328) (hA : A = none → n = 0) (hl : xs.length = n * 5)
    (hx : 0 < n → ∃ ad, A = some ad ∧ ∀ j v, xs[j]? = some v → w.cell? (ad.add j) = some v) (h1 : ∀ v ∈ xs, v.oneCell' = true) :
    Calls Try.prog 33 #[.slice A n c] w (CloneEnd w.heap.size n xs w) := by
 obtain ⟨i0, hi0, hzz⟩ := Option.map_eq_some_iff.1 info; simp only [Prod.mk.injEq] at hzz; obtain ⟨hz0, hz1, hz2⟩ := hzz; have heq := fun W => Lib.run_eql_slice_nil (P := Try.prog) W 22 26 A n c 0 0 Try.underlying22
 cases A with
 | none =>
  obtain rfl := hA rfl; obtain rfl : xs = [] := List.eq_nil_of_length_eq_zero (by rw [hl, Nat.zero_mul]); have F := Lib.hid (show CloneEnd w.heap.size 0 [] w (.returned (.slice none 0 0)) w from ⟨_, rfl, ⟨rfl, .inl ⟨rfl, rfl⟩⟩, Below.refl _ _⟩); have heq' : ∀ W : World, (binOp .eql 22 (.slice none 0 c) (.slice none 0 0)).run Try.prog W = .ok (.bool true) W := heq; clear hx hl h1 hA hbig heq hi0 hz0 hz1 hz2; go_enter Try.func33, Try.ntmps33; go_wp2
  go_ret; exact F.out
 | some ad =>
  obtain ⟨W0, hW0⟩ : ∃ W0, W0 = w.alloc (.cells #[] 26) := ⟨_, rfl⟩
  have ho : W0.ownsRow w.heap.size 26 5 (.slice (some ⟨w.heap.size, 0, none⟩) 0 0) 0 [] := by
   rw [hW0]; exact own_of_block (cur := []) (Nat.le_refl _) (heap_alloc_new w _) (Nat.le_refl _) (by unfold maxLen; omega) (by simp) (by simp)
  have hsz : W0.heap.size = w.heap.size + 1 := by rw [hW0]; simp
  have hB0 : Below w.heap.size w W0 := by rw [hW0]; exact (Below.refl _ w).alloc (Nat.le_refl _) _
  have hsrc : ∀ j v, xs[j]? = some v → W0.cell? (ad.add j) = some v := fun j v hj => by
   have hn : 0 < n := by
    have := (List.getElem?_eq_some_iff.1 hj).1; rw [hl] at this; omega
   obtain ⟨ad', h', hc⟩ := hx hn; injection h' with h'; subst h'; have := hc j v hj; exact (hB0.cell (World.block_lt_of_cell? w _ this)).trans this
  obtain ⟨v', W, hrun, hown, hgr, _⟩ := run_append_own (P := Try.prog) W0 w.heap.size 22 22 26 i0 _ 5 40 Try.underlying22 hi0 hz0 hz1 hz2 rfl (by omega) _ 0 [] ho ad n c xs hl hsrc h1 (by unfold maxLen; omega) (by omega) (by omega)
  have hB : Below w.heap.size w W := hB0.grown hgr (by omega) (fun k hk => by
   simp [Value.ownBlock] at hk
   omega)
  rw [Nat.zero_add, List.nil_append] at hown; have F := Lib.hid (show CloneEnd w.heap.size n xs w (.returned v') W from ⟨_, rfl, hown, hB⟩); have hrun' : ∀ ty, (Builtin.append_ #[22, 22] ty #[.slice (some ⟨w.heap.size, 0, none⟩) 0 0, .slice (some ad) n c]).run Try.prog (w.alloc (.cells #[] 26)) = .ok v' W := fun ty => by rw [← hW0]; exact hrun
  have heq' : ∀ W : World, (binOp .eql 22 (.slice (some ad) n c) (.slice none 0 0)).run Try.prog W = .ok (.bool false) W := heq; clear hx hl h1 hA hbig heq hi0 hz0 hz1 hz2 hrun hown hgr hB hsrc hB0 hsz ho hW0; go_enter Try.func33, Try.ntmps33; go_wp2_with (at_builtin; refine wpList_append_run _ rfl _ _ 22 22 rfl _ _ rfl rfl (hrun' _) ?_)
  go_ret; exact F.out
end Go.Proofs.Ytjffojmpfdoodaa.Del
/-
  Rows of structs of whole numbers as one list of cells.
-/
set_option linter.unusedVariables false
set_option linter.unusedSimpArgs false
namespace Go.Proofs.Ytjffojmpfdoodaa.Flat
open Go Go.RowKit Go.Proofs.YtjffojmpfdoodaaW.PrintWords Go.Proofs.Ytjffojmpfdoodaa.Blk
section
variable {α : Type} {enc : α → List Value} {size : Nat}
theorem flat_len (hl : ∀ x, (enc x).length = size) (ps : List α) : (ps.flatMap enc).length = ps.length * size := by
  induction ps with
  | nil => simp
  | cons p ps ih => rw [List.flatMap_cons, List.length_append, hl, ih, List.length_cons, Nat.add_mul]; omega
theorem flat_take (hl : ∀ x, (enc x).length = size) (ps : List α) : ∀ i, (ps.flatMap enc).take (i * size) = (ps.take i).flatMap enc := by
  induction ps with
  | nil => intro i; simp
  | cons p ps ih =>
    intro i
    cases i with
    | zero => simp
    | succ i =>
      rw [List.flatMap_cons, List.take_succ_cons, List.flatMap_cons, ← ih i]
      have : (i + 1) * size = (enc p).length + i * size := by rw [hl, Nat.add_mul]; omega
      rw [this, List.take_length_add_append]
theorem flat_drop (hl : ∀ x, (enc x).length = size) (ps : List α) : ∀ i, (ps.flatMap enc).drop (i * size) = (ps.drop i).flatMap enc := by
  induction ps with
  | nil => intro i; simp
  | cons p ps ih =>
    intro i
    cases i with
    | zero => simp
    | succ i =>
      rw [List.flatMap_cons, List.drop_succ_cons, ← ih i]
      have : (i + 1) * size = (enc p).length + i * size := by rw [hl, Nat.add_mul]; omega
      rw [this, List.drop_length_add_append]
theorem flat_at (hl : ∀ x, (enc x).length = size) (ps : List α) (j : Nat) (p : α) (hj : ps[j]? = some p) : ((ps.flatMap enc).drop (j * size)).take size = enc p := by
  rw [flat_drop hl]
  have hlt := (List.getElem?_eq_some_iff.1 hj).1
  have : ps.drop j = p :: ps.drop (j + 1) := by
    rw [List.drop_eq_getElem_cons hlt]
    rw [List.getElem?_eq_getElem hlt] at hj
    injection hj with hj
    rw [hj]
  rw [this, List.flatMap_cons, List.take_append_of_le_length (by rw [hl]; omega), List.take_of_length_le (by rw [hl]; omega)]
theorem flat_reps {R : α → List Value → Prop} (hl : ∀ x, (enc x).length = size) (hR : ∀ x, R x (enc x)) (ps : List α) : Reps R size ps (ps.flatMap enc) :=
  ⟨flat_len hl ps, fun j p hj => by rw [flat_at hl ps j p hj]; exact hR p⟩
theorem flat_one (h1 : ∀ x, ∀ v ∈ enc x, v.oneCell' = true) (ps : List α) : ∀ v ∈ ps.flatMap enc, v.oneCell' = true := fun v hv => by
  obtain ⟨x, _, hx⟩ := List.mem_flatMap.1 hv
  exact h1 x v hx
theorem flat_cells {R : α → List Value → Prop} {w : World} {A : Option Addr} {n : Nat} {ps : List α} (hl : ∀ x, (enc x).length = size) (hs : 0 < size) (hR : ∀ x c, R x c → c = enc x) (h : ReadsRow R size w A n ps) (hn : 0 < n) :
    ∃ ad, A = some ad ∧ ∀ j v, (ps.flatMap enc)[j]? = some v → w.cell? (ad.add j) = some v := by
  obtain ⟨ad, e, hc⟩ := h.2.2 hn
  refine ⟨ad, e, fun j v hj => ?_⟩
  have hlt := (List.getElem?_eq_some_iff.1 hj).1
  rw [flat_len hl] at hlt
  have hq : j / size < ps.length := (Nat.div_lt_iff_lt_mul hs).2 hlt
  obtain ⟨c, hcl, hr, hcell⟩ := hc (j / size) _ (List.getElem?_eq_getElem hq)
  have he := hR _ _ hr
  have hm := Nat.mod_lt j hs
  have hdm : j / size * size + j % size = j := by rw [Nat.mul_comm]; exact Nat.div_add_mod j size
  have hf := flat_at hl ps (j / size) _ (List.getElem?_eq_getElem hq)
  have : c[j % size]? = some v := by
    rw [he, ← hf, List.getElem?_take_of_lt hm, List.getElem?_drop, hdm]
    exact hj
  have := hcell _ _ this
  rwa [hdm] at this
end
end Go.Proofs.Ytjffojmpfdoodaa.Flat
-- written by wip/xprint.py out of the translation (the kit's printer, driven)
namespace Go.Proofs.Ytjffojmpfdoodaa.X
open Go.RowKit Go.Proofs.YtjffojmpfdoodaaW.PrintWords Go.Proofs.YtjffojmpfdoodaaW.PrintLast Go.Proofs.YtjffojmpfdoodaaW.PrintMore
attribute [local go_sem] cell_twice max2_int min2_int max_two min_two max_three min_three max_four min_four   -- for this text's walks alone
set_option linter.unusedVariables false
set_option linter.unusedSimpArgs false

/-! ### api_Wait_33: function 33 -/
--import Derived.Test.YtjffojmpfdoodaaDel
--import Derived.Test.YtjffojmpfdoodaaFlat
def enc26 (x : S26) : List Value := [.int .i64 x.f0, .int .i64 x.f1.f0, .int .i64 x.f1.f1, .int .i64 x.f2, .int .i64 x.f3]
theorem enc26_len (x : S26) : (enc26 x).length = 5 := rfl
theorem enc26_one (x : S26) : ∀ v ∈ enc26 x, v.oneCell' = true := by
 intro v hv; simp only [enc26, List.mem_cons, List.not_mem_nil, or_false] at hv; rcases hv with rfl | rfl | rfl | rfl | rfl <;> rfl
/-- A row of the call's own, out of its cells. -/
theorem R_of_flat {w : World} {base : Nat} {ok : Nat → Prop} {v : Value} {ps : List S26} (h : w.ownsRow base 26 5 v ps.length (ps.flatMap enc26)) (hok : ∀ k, v.ownBlock = some k → ok k) : Kd.R k26 26 w base ok v ps :=
  ⟨hok, ps.flatMap enc26, h, Flat.flat_reps (size := 5) enc26_len (fun x => k26_mkM w base _ x) ps⟩
theorem flat_of_R {w : World} {base : Nat} {ok : Nat → Prop} {v : Value} {ps : List S26} (h : Kd.R k26 26 w base ok v ps) : w.ownsRow base 26 5 v ps.length (ps.flatMap enc26) := by
 obtain ⟨_, inner, ho, hr⟩ := h
 have : inner = ps.flatMap enc26 := by
  have hl : inner.length = ps.length * 5 := hr.1; refine List.ext_getElem? (fun j => ?_); by_cases hj : j < ps.length * 5
  ·have hq : j / 5 < ps.length := by omega
   have h1 := hr.2 (j / 5) _ (List.getElem?_eq_getElem hq); have h2 := k26_openM h1; have h3 := Flat.flat_at (size := 5) enc26_len ps (j / 5) _ (List.getElem?_eq_getElem hq); have h4 : ((inner.drop (j / 5 * 5)).take 5)[j % 5]? = (((ps.flatMap enc26).drop (j / 5 * 5)).take 5)[j % 5]? := by rw [h3]; exact congrArg (fun l => l[j % 5]?) h2
   rw [List.getElem?_take_of_lt (by omega), List.getElem?_take_of_lt (by omega), List.getElem?_drop, List.getElem?_drop] at h4; rwa [show j / 5 * 5 + j % 5 = j by omega] at h4
  (rw [List.getElem?_eq_none (by omega), List.getElem?_eq_none (by rw [Flat.flat_len (size := 5) enc26_len]; omega)])
 rwa [this] at ho
def api_Wait_33.f (l0 : List (S26)) : Option (List (S26)) := if l0.length * 40 ≤ 140737488355328 then some l0 else none
theorem api_Wait_33.calls (A0 : Option Addr) (c0 : Nat) (l0 : List (S26)) (r : List (S26)) (w : World) (hr0 : Kd.C k26 w A0 l0.length l0) (hc0 : l0.length ≤ c0) (h : api_Wait_33.f l0 = some r) :
    Calls Try.prog 33 #[.slice A0 l0.length c0] w fun e w' => ∃ v0_ : Value, e = .returned v0_ ∧ Kd.R k26 26 w' w.heap.size (fun _ => True) v0_ r ∧ Below w.heap.size w w' := by
 unfold api_Wait_33.f at h
 by_cases hb : l0.length * 40 ≤ 140737488355328
 ·rw [if_pos hb] at h; obtain rfl := Option.some.inj h; have hx := fun hn => Flat.flat_cells (size := 5) enc26_len (by omega) (fun x c hK => (k26_open hK : c = enc26 x)) hr0 hn
  refine (Del.clone w l0.length c0 A0 (l0.flatMap enc26) hb (fun hA => ?_) (Flat.flat_len enc26_len l0) hx (Flat.flat_one enc26_one l0)).mono ?_
  ·rcases Nat.eq_zero_or_pos l0.length with h0 | h0
   (exact h0); (obtain ⟨ad, he, _⟩ := hx h0; rw [hA] at he; cases he)
  (rintro e w' ⟨v', rfl, hown, hB⟩; exact ⟨v', rfl, R_of_flat hown (fun _ _ => trivial), hB⟩)
 (rw [if_neg hb] at h; cases h)
end Go.Proofs.Ytjffojmpfdoodaa.X
/-
  slices.Insert of one element into a row of the call's own: the four roads.
-/
set_option linter.unusedVariables false
set_option linter.unusedSimpArgs false
namespace Go.Proofs.Ytjffojmpfdoodaa.Ins
open Go Go.RowKit Go.Proofs.Ytjffojmpfdoodaa.Blk

theorem info : (Try.prog.info? 26).map (fun i => (i.zero, i.size, i.bytes)) = some (some (.agg #[(.int .i64 0), (.int .i64 0), (.int .i64 0), (.int .i64 0), (.int .i64 0)]), 5, 40) := by kernel_rfl
theorem infoS : (Try.prog.info? 26).map (·.size) = some 5 := by kernel_rfl
set_option maxHeartbeats 4000000 in
set_option maxRecDepth 100000 in
theorem shift (w : World) (g n c i vb : Nat) (cur vs mid : List Value) (hi : i < n) (hroom : n + 1 ≤ c) (hc63 : c ≤ 9223372036854775807) (hvb : vb ≠ g)
    (hg : w.heap[g]? = some (.cells cur.toArray 26 (0, 0))) (hcur : cur.length = c * 5)
    (vc : Nat) (vcur : List Value) (hv : w.heap[vb]? = some (.cells vcur.toArray 26 (0, 0))) (hvk : 5 ≤ vcur.length) (hvt : vcur.take 5 = vs) (hvl : vs.length = 5) (h1v : ∀ v ∈ vs, v.oneCell' = true)
    (hmid : (cur.drop (i * 5)).take ((n - i) * 5) = mid) (h1c : ∀ v ∈ mid, v.oneCell' = true) :
    Calls Try.prog 32 #[.slice (some ⟨g, 0, none⟩) n c, .int .i64 i, .slice (some ⟨vb, 0, none⟩) 1 vc] w fun e w' =>
      e = .returned (.slice (some ⟨g, 0, none⟩) (n + 1) c) ∧ w' = (w.drew.setRow g (splice cur ((i + 1) * 5) mid).toArray).setRow g (splice (splice cur ((i + 1) * 5) mid) (i * 5) vs).toArray := by
 have hz2 : ¬ ((i : Int) = (n : Int)) := by omega
 have hw1 : IntKind.i64.wrap ((i : Int) + 1) = (i : Int) + 1 := by rw [IntKind.wrap_i64]; omega
 have hb1 : (0 : Int) ≤ (i : Int) + 1 := by omega
 have hin : i ≤ n := by omega
 have htn : ((i : Int) + 1).toNat = i + 1 := by omega
 have hb2 : ¬ (c = i + 1) := by omega
 have hb3 : (i : Int) ≤ (n : Int) + 1 := by omega
 have hb4 : ¬ (c = i) := by omega
 have hg0 : 0 < cur.length := by rw [hcur]; omega
 have hml : mid.length = (n - i) * 5 := by rw [← hmid, List.length_take, List.length_drop, hcur]; omega
 have hsa : w.shape? vb = some (26, vcur.length) := by simp [World.shape?, hv]
 have hsb : w.shape? g = some (26, c * 5) := by simp [World.shape?, hg, hcur]
 have hfa : ∀ k, w.frozen? ⟨vb, k, none⟩ = false := fun k => by simp [World.frozen?, hv]
 have hov : ∀ lb cb, (callFunc 48 #[.slice (some ⟨vb, 0, none⟩) 1 vc, .slice (some ⟨g, (i + 1) * 5, none⟩) lb cb]).run Try.prog w = .ok (.value (.bool false)) w := fun lb cb => by
  rw [run_callFunc_extern Try.func48 (by kernel_rfl) (by kernel_rfl) (by kernel_rfl) (e := Extern.SlicesOverlaps.overlaps #[22, 22] #[4]) (by kernel_rfl),
    Lib.run_overlaps_apart w 22 4 26 Try.underlying22 5 (fun _ => by kernel_rfl) ⟨vb, 0, none⟩ ⟨g, (i + 1) * 5, none⟩ 1 vc lb cb hvb 26 26 vcur.length (c * 5) hsa hsb (by omega) (hfa 0) (hfa _)]
  rfl
 have hgd : w.drew.heap[g]? = some (.cells cur.toArray 26 (0, 0)) := hg
 have hcp1 : ∀ ty dc sc, (Builtin.copy_ #[22, 22] ty #[.slice (some ⟨g, (i + 1) * 5, none⟩) (n - i) dc, .slice (some ⟨g, i * 5, none⟩) (n + 1 - i) sc]).run Try.prog w.drew = .ok (goInt ((n - i : Nat) : Int)) (w.drew.setRow g (splice cur ((i + 1) * 5) mid).toArray) := fun ty dc sc =>
  run_copy_blk w.drew 22 ty 26 5 Try.underlying22 infoS g ((i + 1) * 5) (n - i) dc ⟨g, i * 5, none⟩ (n + 1 - i) sc (n - i) cur mid 26 hgd (by simp only [Nat.min_def]; split <;> omega) hml
    (fun j v hj => by
      rw [add_at, cell_of_row _ _ _ _ _ _ hgd]
      rw [← hmid, List.getElem?_take] at hj
      split at hj
      · rw [List.getElem?_drop] at hj
        simpa using hj
      · cases hj) (by rw [hml, hcur]; omega) h1c
 obtain ⟨C1, hC1⟩ : ∃ C1, C1 = splice cur ((i + 1) * 5) mid := ⟨_, rfl⟩
 rw [← hC1] at hcp1 ⊢; have hC1l : C1.length = c * 5 := by rw [hC1, length_splice _ _ _ (by rw [hml, hcur]; omega), hcur]
 obtain ⟨W1, hW1⟩ : ∃ W1, W1 = w.drew.setRow g C1.toArray := ⟨_, rfl⟩
 have hg1 : W1.heap[g]? = some (.cells C1.toArray 26 (0, 0)) := by rw [hW1]; exact setRow_block _ _ _ _ _ _ hgd
 have hv1 : W1.heap[vb]? = some (.cells vcur.toArray 26 (0, 0)) := by rw [hW1, setRow_far _ _ _ _ hvb]; exact hv
 have hcp2 : ∀ ty dc, (Builtin.copy_ #[22, 22] ty #[.slice (some ⟨g, i * 5, none⟩) (n + 1 - i) dc, .slice (some ⟨vb, 0, none⟩) 1 vc]).run Try.prog W1 = .ok (goInt ((1 : Nat) : Int)) (W1.setRow g (splice C1 (i * 5) vs).toArray) := fun ty dc =>
  run_copy_blk W1 22 ty 26 5 Try.underlying22 infoS g (i * 5) (n + 1 - i) dc ⟨vb, 0, none⟩ 1 vc 1 C1 vs 26 hg1 (by simp only [Nat.min_def]; split <;> omega) (by rw [hvl])
    (fun j v hj => by
      rw [add_at, cell_of_row _ _ _ _ _ _ hv1]
      rw [← hvt, List.getElem?_take] at hj
      split at hj
      · simpa using hj
      · cases hj) (by rw [hvl, hC1l]; omega) h1v
 rw [← hW1] at hcp1 ⊢; clear hg hv hvt hvk hcur hvl hmid hg0 hml hsa hsb hfa hgd hC1 hC1l hW1 hg1 hv1; go_enter Try.func32, Try.ntmps32; go_wp2_with (simp only [hov])
 go_region_law (refine step_copy_run rfl _ _ 22 22 rfl _ _ (by simp [Act.eval, Act.put]) (by simp [Act.eval, Act.put]) (hcp1 _ _ _) ?_)
 go_wp2_with (at_builtin; refine wpList_copy_run _ rfl _ _ 22 22 rfl _ _ rfl rfl (hcp2 _ _) ?_)
 go_ret; exact ⟨rfl, rfl⟩
theorem app3 {α : Type} (p : List α) (A B : Array α) : p.toArray ++ A ++ B = (p ++ A.toList ++ B.toList).toArray := by
 cases A; cases B; simp
theorem zero_len (n : Nat) : (Builtin.zeroCells (.agg #[(.int .i64 0), (.int .i64 0), (.int .i64 0), (.int .i64 0), (.int .i64 0)] : Value).cells n).size = n * 5 := by simp [Builtin.zeroCells, Value.cells]
set_option maxHeartbeats 4000000 in
set_option maxRecDepth 100000 in
theorem grow (w : World) (g n c i vb : Nat) (cur vs mid pre : List Value) (hi : i < n) (hnc : n ≤ c) (hroom : c < n + 1) (hbig : (n + 1) * 40 ≤ 140737488355328)
    (hg : w.heap[g]? = some (.cells cur.toArray 26 (0, 0))) (hcur : cur.length = c * 5)
    (vc : Nat) (vcur : List Value) (hv : w.heap[vb]? = some (.cells vcur.toArray 26 (0, 0))) (hvk : 5 ≤ vcur.length) (hvt : vcur.take 5 = vs) (hvl : vs.length = 5) (h1v : ∀ v ∈ vs, v.oneCell' = true)
    (hmid : (cur.drop (i * 5)).take ((n - i) * 5) = mid) (h1c : ∀ v ∈ mid, v.oneCell' = true) (hpre : cur.take (i * 5) = pre) :
    Calls Try.prog 32 #[.slice (some ⟨g, 0, none⟩) n c, .int .i64 i, .slice (some ⟨vb, 0, none⟩) 1 vc] w fun e w' =>
      ∃ (G : Nat) (rest : List Value) (W : World), n + 1 ≤ G ∧ G ≤ maxLen ∧ rest.length + (n + 1) * 5 = G * 5 ∧ e = .returned (.slice (some ⟨w.heap.size, 0, none⟩) (n + 1) G) ∧ Below w.heap.size w W ∧ W.heap.size = w.heap.size + 1 ∧
        W.heap[w.heap.size]? = some (.cells (pre ++ (vs ++ (mid ++ rest))).toArray 26 (0, 0)) ∧ w' = W := by
 obtain ⟨i0, hi0, hzz⟩ := Option.map_eq_some_iff.1 info; simp only [Prod.mk.injEq] at hzz; obtain ⟨hz0, hz1, hz2⟩ := hzz; have hz2' : ¬ ((i : Int) = (n : Int)) := by omega
 have hw1 : IntKind.i64.wrap ((i : Int) + 1) = (i : Int) + 1 := by rw [IntKind.wrap_i64]; omega
 have hb1 : (0 : Int) ≤ (i : Int) + 1 := by omega
 have hin : i ≤ n := by omega
 have htn : ((i : Int) + 1).toNat = i + 1 := by omega
 have hb3 : (i : Int) ≤ (n : Int) := by omega
 have hb4 : ¬ (c = i) := by omega
 have hkk : (n : Int) + 1 - (i : Int) = ((n + 1 - i : Nat) : Int) := by omega
 have hik : i + (n + 1 - i) = n + 1 := by omega
 have hg0 : 0 < cur.length := by rw [hcur]; omega
 have hml : mid.length = (n - i) * 5 := by rw [← hmid, List.length_take, List.length_drop, hcur]; omega
 have hpl : pre.length = i * 5 := by rw [← hpre, List.length_take, hcur]; omega
 have hn63 : n ≤ 140737488355328 := by omega
 have hgl : g < w.heap.size := (Array.getElem?_eq_some_iff.1 hg).1; have hvl2 : vb < w.heap.size := (Array.getElem?_eq_some_iff.1 hv).1; have hgd : w.drew.heap[g]? = some (.cells cur.toArray 26 (0, 0)) := hg
 have hold : (Builtin.firstCells i0.size i (.slice (some ⟨g, 0, none⟩) i c)).run Try.prog w.drew = .ok pre.toArray w.drew := by
  rw [hz1]
  exact run_firstCells_some w.drew 5 i ⟨g, 0, none⟩ i c pre hpl (fun j v hj => by
   rw [add_at, cell_of_row _ _ _ _ _ _ hgd]; rw [← hpre, List.getElem?_take] at hj; split at hj
   ·simpa using hj
   ·cases hj)
 obtain ⟨G, hG⟩ : ∃ G, G = grownCap w (n + 1) c 26 := ⟨_, rfl⟩
 obtain ⟨ROW, hROW⟩ : ∃ ROW : List Value, ROW = pre ++ (Builtin.zeroCells (.agg #[(.int .i64 0), (.int .i64 0), (.int .i64 0), (.int .i64 0), (.int .i64 0)] : Value).cells (n + 1 - i)).toList ++ (Builtin.zeroCells (.agg #[(.int .i64 0), (.int .i64 0), (.int .i64 0), (.int .i64 0), (.int .i64 0)] : Value).cells (G - (n + 1))).toList := ⟨_, rfl⟩
 have hrz : ∀ ty, (Builtin.append_ #[22, 3] ty #[.slice (some ⟨g, 0, none⟩) i c, .int .i64 ((n : Int) + 1 - (i : Int))]).run Try.prog w =
     .ok (.slice (some ⟨w.heap.size, 0, none⟩) (n + 1) G) (w.drew.alloc (.cells ROW.toArray 26)) := fun ty => by
   have h := Lib.run_append_grow_zeros w 22 3 ty 26 i0 _ .i64 .i64 Try.underlying22 Try.underlying3 hi0 hz0 (some ⟨g, 0, none⟩) i c pre hold (n + 1 - i) (by omega) (by omega) (by omega) (by omega) (by rw [hz2]; omega) (by rw [hz2, hik]; exact growslice_fits hroom hbig)
   rw [hik, ← hG, app3] at h
   rw [hkk, h, hROW]
 have hGn : n + 1 ≤ G := by rw [hG]; exact grownCap_ge w _ _ _
 have hG63 : G ≤ maxLen := by
  have := grownCap_le_maxLen w (n + 1) c 26 (by unfold maxLen; omega); rw [← hG] at this; exact this
 have hG64 : G ≤ 9223372036854775807 := by unfold maxLen at hG63; omega
 have hRl : ROW.length = G * 5 := by
  rw [hROW]; simp only [List.length_append, Array.length_toList, zero_len, hpl]; omega
 have hGi : ¬ (G = i) := by omega
 have hGim : ¬ (G = i + 1) := by omega
 have hn0 : g ≠ w.heap.size := by omega
 obtain ⟨W1, hW1⟩ : ∃ W1, W1 = (w.alloc (.cells ROW.toArray 26)).drew := ⟨_, rfl⟩
 have hg1 : W1.heap[w.heap.size]? = some (.cells ROW.toArray 26 (0, 0)) := by rw [hW1]; exact heap_alloc_new w _
 have hB1 : Below w.heap.size w W1 := by rw [hW1]; exact ((Below.refl _ w).alloc (Nat.le_refl _) _).drew
 have hv1 : W1.heap[vb]? = some (.cells vcur.toArray 26 (0, 0)) := (hB1.block vb hvl2).trans hv
 have hcA : ∀ ty dc, (Builtin.copy_ #[22, 22] ty #[.slice (some ⟨w.heap.size, i * 5, none⟩) (n + 1 - i) dc, .slice (some ⟨vb, 0, none⟩) 1 vc]).run Try.prog W1 = .ok (goInt ((1 : Nat) : Int)) (W1.setRow w.heap.size (splice ROW (i * 5) vs).toArray) := fun ty dc =>
  run_copy_blk W1 22 ty 26 5 Try.underlying22 infoS w.heap.size (i * 5) (n + 1 - i) dc ⟨vb, 0, none⟩ 1 vc 1 ROW vs 26 hg1 (by simp only [Nat.min_def]; split <;> omega) (by rw [hvl])
    (fun j v hj => by
      rw [add_at, cell_of_row _ _ _ _ _ _ hv1]
      rw [← hvt, List.getElem?_take] at hj
      split at hj
      · simpa using hj
      · cases hj) (by rw [hvl, hRl]; omega) h1v
 obtain ⟨R1, hR1⟩ : ∃ R1, R1 = splice ROW (i * 5) vs := ⟨_, rfl⟩
 rw [← hR1] at hcA; have hR1l : R1.length = G * 5 := by rw [hR1, length_splice _ _ _ (by rw [hvl, hRl]; omega), hRl]
 obtain ⟨W2, hW2⟩ : ∃ W2, W2 = W1.setRow w.heap.size R1.toArray := ⟨_, rfl⟩
 have hg2 : W2.drew.heap[w.heap.size]? = some (.cells R1.toArray 26 (0, 0)) := by rw [hW2]; exact setRow_block _ _ _ _ _ _ hg1
 have hB2 : Below w.heap.size w W2.drew := by rw [hW2]; exact (setRow_below hB1 (Nat.le_refl _) _).drew
 have hgs : W2.drew.heap[g]? = some (.cells cur.toArray 26 (0, 0)) := (hB2.block g hgl).trans hg
 have hcB : ∀ ty dc sc, (Builtin.copy_ #[22, 22] ty #[.slice (some ⟨w.heap.size, (i + 1) * 5, none⟩) (n - i) dc, .slice (some ⟨g, i * 5, none⟩) (n - i) sc]).run Try.prog W2.drew = .ok (goInt ((n - i : Nat) : Int)) (W2.drew.setRow w.heap.size (splice R1 ((i + 1) * 5) mid).toArray) := fun ty dc sc =>
  run_copy_blk W2.drew 22 ty 26 5 Try.underlying22 infoS w.heap.size ((i + 1) * 5) (n - i) dc ⟨g, i * 5, none⟩ (n - i) sc (n - i) R1 mid 26 hg2 (by simp) hml
    (fun j v hj => by
      rw [add_at, cell_of_row _ _ _ _ _ _ hgs]
      rw [← hmid, List.getElem?_take] at hj
      split at hj
      · rw [List.getElem?_drop] at hj
        simpa using hj
      · cases hj) (by rw [hml, hR1l]; omega) h1c
 have fin : ∃ rest : List Value, rest.length + (n + 1) * 5 = G * 5 ∧ splice R1 ((i + 1) * 5) mid = pre ++ (vs ++ (mid ++ rest)) := by
  refine ⟨R1.drop ((i + 1) * 5 + mid.length), by rw [List.length_drop, hR1l, hml]; omega, ?_⟩
  have hp1 : R1.take ((i + 1) * 5) = pre ++ vs := by
   rw [hR1]; have := splice_at ROW vs (i * 5) (by rw [hRl]; omega); rw [hvl] at this; rw [show (i + 1) * 5 = i * 5 + 5 by omega, this, hROW, List.append_assoc, List.take_append_of_le_length (by omega), List.take_of_length_le (by omega)]
  unfold splice
  rw [hp1]; simp
 have hB3 : Below w.heap.size w (W2.drew.setRow w.heap.size (splice R1 ((i + 1) * 5) mid).toArray) := setRow_below hB2 (Nat.le_refl _) _; have hs3 : (W2.drew.setRow w.heap.size (splice R1 ((i + 1) * 5) mid).toArray).heap.size = w.heap.size + 1 := by rw [hW2, hW1]; simp [World.setRow]
 have hg3 : (W2.drew.setRow w.heap.size (splice R1 ((i + 1) * 5) mid).toArray).heap[w.heap.size]? = some (.cells (splice R1 ((i + 1) * 5) mid).toArray 26 (0, 0)) := setRow_block _ _ _ _ _ _ hg2; obtain ⟨W3, hW3⟩ : ∃ W3, W3 = W2.drew.setRow w.heap.size (splice R1 ((i + 1) * 5) mid).toArray := ⟨_, rfl⟩
 rw [← hW3] at hcB hB3 hs3 hg3; obtain ⟨rest, hrest, hf⟩ := fin; rw [hf] at hg3; rw [← hW2] at hcA; have F1 := Lib.hid (show n + 1 ≤ G ∧ G ≤ maxLen ∧ rest.length + (n + 1) * 5 = G * 5 from ⟨hGn, hG63, hrest⟩); have F2 := Lib.hid (show Below w.heap.size w W3 ∧ W3.heap.size = w.heap.size + 1 ∧ W3.heap[w.heap.size]? = some (.cells (pre ++ (vs ++ (mid ++ rest))).toArray 26 (0, 0)) from ⟨hB3, hs3, hg3⟩); have hrz' : ∀ ty, (Builtin.append_ #[22, 3] ty #[.slice (some ⟨g, 0, none⟩) i c, .int .i64 ((n : Int) + 1 - (i : Int))]).run Try.prog w = .ok (.slice (some ⟨w.heap.size, 0, none⟩) (n + 1) G) W1 := fun ty => by rw [hW1]; exact hrz ty
 clear hg hv hvt hvk hcur hvl hmid hpre hg0 hml hpl hgd hold hROW hrz hRl hG hG63 hGn hg1 hB1 hv1 hR1 hR1l hg2 hB2 hgs hf hB3 hs3 hg3 hi0 hz0 hz1 hz2 hrest hkk hik hW1 hW2 hW3 hgl hvl2 hbig; go_enter Try.func32, Try.ntmps32
 go_wp2_with (first
   | (at_builtin; refine wpList_append_run _ rfl _ _ 22 3 rfl _ _ rfl rfl (hrz' _) ?_)
   | (at_builtin; refine wpList_copy_run _ rfl _ _ 22 22 rfl _ _ rfl rfl (hcA _ _) ?_))
 go_region_law (refine step_copy_run rfl _ _ 22 22 rfl _ _ (by simp [Act.eval, Act.put]) (by simp [Act.eval, Act.put]) (hcB _ _ _) ?_)
 go_wp2
 go_ret; exact ⟨G, rest, W3, F1.out.1, F1.out.2.1, F1.out.2.2, rfl, F2.out.1, F2.out.2.1, F2.out.2.2, rfl⟩
def EndOf (w : World) (base n : Nat) (ob : Option Nat) (ys : List Value) (e : Ending) (w' : World) : Prop :=
  ∃ v' : Value, e = .returned v' ∧ w'.ownsRow base 26 5 v' (n + 1) ys ∧ w.grownBy w' ob ∧ (v'.ownBlock = ob ∨ v'.ownBlock = some w.heap.size)

set_option maxHeartbeats 4000000 in
set_option maxRecDepth 100000 in
theorem atEnd (w : World) (base n c vb : Nat) (A : Option Addr) (xs vs : List Value) (hbig : (n + 1) * 40 ≤ 140737488355328) (hbase : base ≤ w.heap.size)
    (ho : w.ownsRow base 26 5 (.slice A n c) n xs)
    (vc : Nat) (vcur : List Value) (hv : w.heap[vb]? = some (.cells vcur.toArray 26 (0, 0))) (hvk : 5 ≤ vcur.length) (hvt : vcur.take 5 = vs) (hvl : vs.length = 5) (h1v : ∀ v ∈ vs, v.oneCell' = true) :
    Calls Try.prog 32 #[.slice A n c, .int .i64 n, .slice (some ⟨vb, 0, none⟩) 1 vc] w (EndOf w base n (Value.slice A n c).ownBlock (xs ++ vs)) := by
 obtain ⟨i0, hi0, hzz⟩ := Option.map_eq_some_iff.1 info; simp only [Prod.mk.injEq] at hzz; obtain ⟨hz0, hz1, hz2⟩ := hzz; have hn63 : n ≤ 140737488355328 := by omega
 obtain ⟨v', W, hrun, hown, hgr, _, hat⟩ := run_append_own_at (P := Try.prog) w base 22 22 26 i0 _ 5 40 Try.underlying22 hi0 hz0 hz1 hz2 rfl (by omega) _ n xs ho ⟨vb, 0, none⟩ 1 vc vs (by rw [hvl])
   (fun j u hj => by
     rw [add_at, cell_of_row _ _ _ _ _ _ hv]
     rw [← hvt, List.getElem?_take] at hj
     split at hj
     · simpa using hj
     · cases hj) h1v (by unfold maxLen; omega) hbig hbase
 have hrun' : ∀ ty, (Builtin.append_ #[22, 22] ty #[.slice A n c, .slice (some ⟨vb, 0, none⟩) 1 vc]).run Try.prog w = .ok v' W := fun ty => hrun
 have hcap : n ≤ c := by
  rcases ho.2 with ⟨h1, h2⟩ | ⟨g, cap, cur, h1, hb, _, h3, _⟩
  ·simp at h1; omega
  ·simp at h1; omega
 have hcap63 : c ≤ 9223372036854775807 := by
  rcases ho.2 with ⟨h1, h2⟩ | ⟨g, cap, cur, h1, hb, _, h3, h4, _⟩
  ·simp at h1; omega
  ·simp at h1
   unfold maxLen at h4
   omega
 have F := Lib.hid (show W.ownsRow base 26 5 v' (n + 1) (xs ++ vs) ∧ w.grownBy W (Value.slice A n c).ownBlock ∧ (v'.ownBlock = (Value.slice A n c).ownBlock ∨ v'.ownBlock = some w.heap.size) from ⟨hown, hgr, hat⟩); clear hrun hown hgr hat ho hv hvt hvk hvl hbig hbase hi0 hz0 hz1 hz2; cases A with
 | none =>
  go_enter Try.func32, Try.ntmps32; go_wp2_with (at_builtin; refine wpList_append_run _ rfl _ _ 22 22 rfl _ _ rfl rfl (hrun' _) ?_)
  all_goals (go_ret; exact ⟨v', rfl, F.out.1, F.out.2.1, F.out.2.2⟩)
 | some a =>
  obtain ⟨ab, ao, asp⟩ := a; go_enter Try.func32, Try.ntmps32; go_wp2_with (at_builtin; refine wpList_append_run _ rfl _ _ 22 22 rfl _ _ rfl rfl (hrun' _) ?_)
  all_goals (go_ret; exact ⟨v', rfl, F.out.1, F.out.2.1, F.out.2.2⟩)
/-- slices.Insert(s, i, x), s a row of the call's own, x in another block. -/
theorem ins (w : World) (base n c i vb : Nat) (A : Option Addr) (xs vs : List Value) (hi : i ≤ n) (hbig : (n + 1) * 40 ≤ 140737488355328) (hbase : base ≤ w.heap.size)
    (ho : w.ownsRow base 26 5 (.slice A n c) n xs) (h1x : ∀ v ∈ xs, v.oneCell' = true)
    (vc : Nat) (vcur : List Value) (hv : w.heap[vb]? = some (.cells vcur.toArray 26 (0, 0))) (hvk : 5 ≤ vcur.length) (hvt : vcur.take 5 = vs) (hvl : vs.length = 5) (h1v : ∀ v ∈ vs, v.oneCell' = true) (hvb : (Value.slice A n c).ownBlock ≠ some vb) :
    Calls Try.prog 32 #[.slice A n c, .int .i64 i, .slice (some ⟨vb, 0, none⟩) 1 vc] w fun e w' =>
      ∃ v' : Value, e = .returned v' ∧ w'.ownsRow base 26 5 v' (n + 1) (xs.take (i * 5) ++ (vs ++ xs.drop (i * 5))) ∧ w.grownBy w' (Value.slice A n c).ownBlock ∧ (v'.ownBlock = (Value.slice A n c).ownBlock ∨ v'.ownBlock = some w.heap.size) := by
 rcases Nat.lt_or_ge i n with hlt | hge
 ·obtain ⟨g, cap, cur, he, hb, hg, hnc, hc, hcl, hx⟩ := block_of_own ho (by omega); simp only [Value.slice.injEq, true_and] at he; obtain ⟨rfl, rfl⟩ := he; have hne : vb ≠ g := fun h => hvb (by simp [Value.ownBlock, h])
  have hm1 : (cur.drop (i * 5)).take ((n - i) * 5) = xs.drop (i * 5) := by
   rw [← hx, List.drop_take]; congr 1
   omega
  have hp1 : cur.take (i * 5) = xs.take (i * 5) := by
   rw [← hx, List.take_take]; congr 1
   omega
  have h1m : ∀ v ∈ xs.drop (i * 5), v.oneCell' = true := fun v hv => h1x v (List.mem_of_mem_drop hv)
  have hc63 : c ≤ 9223372036854775807 := by unfold maxLen at hc; omega
  rcases Nat.lt_or_ge c (n + 1) with hno | hroom
  ·refine (grow w g n c i vb cur vs _ _ hlt hnc hno hbig hg hcl vc vcur hv hvk hvt hvl h1v hm1 h1m hp1).mono ?_; rintro e w' ⟨G, rest, W, hG1, hG2, hr, rfl, hB, hsz, hW, rfl⟩
   have hml : (xs.drop (i * 5)).length = (n - i) * 5 := by
    rw [← hm1, List.length_take, List.length_drop, hcl]; omega
   have hpl : (xs.take (i * 5)).length = i * 5 := by rw [← hp1, List.length_take, hcl]; omega
   refine ⟨_, rfl, own_of_block hbase hW hG1 hG2 ?_ ?_, ⟨hB.os, hB.tape, hB.output, hB.size, fun k hk _ => hB.block k hk⟩, .inr rfl⟩; (simp only [List.length_append, hml, hpl, hvl]; omega); (rw [← List.append_assoc, ← List.append_assoc, List.take_append_of_le_length (by simp only [List.length_append, hml, hpl, hvl]; omega)]; rw [List.take_of_length_le (by simp only [List.length_append, hml, hpl, hvl]; omega), List.append_assoc])
  ·refine (shift w g n c i vb cur vs _ hlt hroom hc63 hne hg hcl vc vcur hv hvk hvt hvl h1v hm1 h1m).mono ?_; rintro e w' ⟨rfl, rfl⟩
   have hml : (xs.drop (i * 5)).length = (n - i) * 5 := by
    rw [← hm1, List.length_take, List.length_drop, hcl]; omega
   have hl1 : (splice cur ((i + 1) * 5) (xs.drop (i * 5))).length = c * 5 := by rw [length_splice _ _ _ (by rw [hml, hcl]; omega), hcl]
   have hgd : w.drew.heap[g]? = some (.cells cur.toArray 26 (0, 0)) := hg; have hg1 := setRow_block w.drew g (splice cur ((i + 1) * 5) (xs.drop (i * 5))) cur _ _ hgd; have hg2 := setRow_block _ g (splice (splice cur ((i + 1) * 5) (xs.drop (i * 5))) (i * 5) vs) _ _ _ hg1; refine ⟨_, rfl, own_of_block hb hg2 hroom hc ?_ ?_, setRow_grown2 w g _ _, .inl rfl⟩; (rw [length_splice _ _ _ (by rw [hl1, hvl]; omega), hl1])
   ·unfold splice
    have e1 : (List.take ((i + 1) * 5) cur ++ (List.drop (i * 5) xs ++ List.drop ((i + 1) * 5 + (List.drop (i * 5) xs).length) cur)).take (i * 5) = xs.take (i * 5) := by
     rw [List.take_append_of_le_length (by rw [List.length_take, hcl]; omega), List.take_take, ← hp1]; congr 1
     omega
    have e2 : (List.take ((i + 1) * 5) cur ++ (List.drop (i * 5) xs ++ List.drop ((i + 1) * 5 + (List.drop (i * 5) xs).length) cur)).drop (i * 5 + vs.length) = List.drop (i * 5) xs ++ List.drop ((i + 1) * 5 + (List.drop (i * 5) xs).length) cur := by
     have hl : (List.take ((i + 1) * 5) cur).length = i * 5 + vs.length := by rw [List.length_take, hcl, hvl]; omega
     rw [← hl, List.drop_left]
    rw [e1, e2]; have hpl : (xs.take (i * 5)).length = i * 5 := by rw [← hp1, List.length_take, hcl]; omega
    rw [← List.append_assoc, ← List.append_assoc, List.take_append_of_le_length (by simp only [List.length_append, hml, hpl, hvl]; omega)]; rw [List.take_of_length_le (by simp only [List.length_append, hml, hpl, hvl]; omega), List.append_assoc]
 ·obtain rfl : i = n := by omega
  refine (atEnd w base i c vb A xs vs hbig hbase ho vc vcur hv hvk hvt hvl h1v).mono ?_; rintro e w' ⟨v', rfl, hown, hgr, hat⟩; have hxl : xs.length = i * 5 := ho.1; rw [List.take_of_length_le (by omega), List.drop_eq_nil_of_le (by omega), List.append_nil]; exact ⟨v', rfl, hown, hgr, hat⟩
end Go.Proofs.Ytjffojmpfdoodaa.Ins
-- written by wip/xprint.py out of the translation (the kit's printer, driven)
namespace Go.Proofs.Ytjffojmpfdoodaa.X
open Go.RowKit Go.Proofs.YtjffojmpfdoodaaW.PrintWords Go.Proofs.YtjffojmpfdoodaaW.PrintLast Go.Proofs.YtjffojmpfdoodaaW.PrintMore
attribute [local go_sem] cell_twice max2_int min2_int max_two min_two max_three min_three max_four min_four   -- for this text's walks alone
set_option linter.unusedVariables false
set_option linter.unusedSimpArgs false

/-! ### api_Wait_32: function 32 -/
--import Derived.Test.YtjffojmpfdoodaaIns
def api_Wait_32.f (l0 : List (S26)) (a1 : Int) (l2 : List (S26)) : Option (List (S26)) := if (l0.length + 1) * 40 ≤ 140737488355328 ∧ 0 ≤ a1 ∧ a1 ≤ l0.length ∧ l2.length = 1 then some (l0.take a1.toNat ++ (l2 ++ l0.drop a1.toNat)) else none
theorem api_Wait_32.calls (P0_ : Nat → Prop) (u9000_ : Value) (l0 : List (S26)) (a1 : Int) (P2_ : Nat → Prop) (u9001_ : Value) (l2 : List (S26)) (r : List (S26)) (w0 w : World) (hB : Below w0.heap.size w0 w) (ho0 : Kd.R k26 26 w w0.heap.size P0_ u9000_ l0) (hp0_2 : ∀ k_, P0_ k_ → ¬ P2_ k_) (ho2 : Kd.R k26 26 w w0.heap.size P2_ u9001_ l2) (hp2_0 : ∀ k_, P2_ k_ → ¬ P0_ k_) (h : api_Wait_32.f l0 a1 l2 = some r) :
    Calls Try.prog 32 #[u9000_, .int .i64 a1, u9001_] w fun e w' => ∃ v0_ : Value, e = .returned v0_ ∧ Kd.R k26 26 w' w0.heap.size (fun k_ => ((P0_ k_ ∨ P2_ k_) ∨ w.heap.size ≤ k_)) v0_ r ∧ Below w0.heap.size w0 w' ∧ Kept w w' (fun k_ => (P0_ k_ ∨ P2_ k_)) := by
 unfold api_Wait_32.f at h
 by_cases hb : (l0.length + 1) * 40 ≤ 140737488355328 ∧ 0 ≤ a1 ∧ a1 ≤ l0.length ∧ l2.length = 1
 ·rw [if_pos hb] at h; obtain rfl := Option.some.inj h; obtain ⟨hbig, h0, h1, h2⟩ := hb; obtain ⟨i, rfl⟩ := Int.eq_ofNat_of_zero_le h0; rw [Int.toNat_natCast]; have hi : i ≤ l0.length := by omega
  obtain ⟨A, c, rfl⟩ := Kd.R_slice ho0; have hf0 := flat_of_R ho0; have hf2 := flat_of_R ho2; obtain ⟨vb, vc, vcur, rfl, _, hv, hvc, _, hvk, hvt⟩ := Blk.block_of_own hf2 (by omega); have hP2 : P2_ vb := ho2.1 vb rfl; have hl2 : (l2.flatMap enc26).length = 5 := by rw [Flat.flat_len (size := 5) enc26_len, h2]
  rw [h2] at hvt hvc ⊢; rw [Nat.one_mul] at hvt; refine (Ins.ins w w0.heap.size l0.length c i vb A (l0.flatMap enc26) (l2.flatMap enc26) hi hbig hB.size hf0 (Flat.flat_one enc26_one l0) vc vcur hv (by omega) hvt hl2 (Flat.flat_one enc26_one l2) (fun he => hp0_2 vb (ho0.1 vb he) hP2)).mono ?_; rintro e w' ⟨v', rfl, hown, hgr, hat⟩; have hlen : (l0.take i ++ (l2 ++ l0.drop i)).length = l0.length + 1 := by simp only [List.length_append, List.length_take, List.length_drop, h2]; omega
  have hflat : (l0.flatMap enc26).take (i * 5) ++ (l2.flatMap enc26 ++ (l0.flatMap enc26).drop (i * 5)) = (l0.take i ++ (l2 ++ l0.drop i)).flatMap enc26 := by
   rw [Flat.flat_take enc26_len, Flat.flat_drop enc26_len, List.flatMap_append, List.flatMap_append]
  rw [hflat, ← hlen] at hown; have hS : ∀ k, (Value.slice A l0.length c).ownBlock = some k → P0_ k := ho0.1; refine ⟨v', rfl, R_of_flat hown (fun k hk => ?_), hB.trans (Blk.below_of_grown hgr hB.size (fun k hk => own_base hf0 k hk)), ?_⟩
  ·rcases hat with hat | hat
   (exact .inl (.inl (hS k (by rw [← hat]; exact hk)))); (rw [hat] at hk; injection hk with hk; exact .inr (by omega))
  (exact ⟨hgr.size, fun k hk hn => hgr.block k hk (fun he => hn (.inl (hS k he.symm)))⟩)
 (rw [if_neg hb] at h; cases h)
end Go.Proofs.Ytjffojmpfdoodaa.X
-- written by wip/xprint.py out of the translation (the kit's printer, driven)
namespace Go.Proofs.Ytjffojmpfdoodaa.X
open Go.RowKit Go.Proofs.YtjffojmpfdoodaaW.PrintWords Go.Proofs.YtjffojmpfdoodaaW.PrintLast Go.Proofs.YtjffojmpfdoodaaW.PrintMore
attribute [local go_sem] cell_twice max2_int min2_int max_two min_two max_three min_three max_four min_four   -- for this text's walks alone
set_option linter.unusedVariables false
set_option linter.unusedSimpArgs false

/-! ### waiting_Join: function 12 -/
def waiting_Join.j0 : Nat → List (S26) → Bool → Int → Int → Int → Int → Int → Option ((List (S26)) × Int)
  | 0, _, _, _, _, _, _, _ => none
  | k + 1, x0, x25, x117000, x117001, x117002, x117003, x117004 => if x25 = true then (some (([] : List (S26)), 260)) else ((api_Wait_30.f k x0 x117000 x117001 x117002 x117003 x117004 ()).bind fun bt120 => ((api_Wait_33.f x0).bind fun t122 => ((api_Wait_32.f t122 bt120.1 (([(⟨x117000, (⟨x117001, x117002⟩ : S24), x117003, x117004⟩ : S26)] : List (S26)))).bind fun t128 => (some (t128, 0)))))
def waiting_Join.f (k : Nat) (l0 : List (S26)) (a1_0 : Int) (a1_1 : Int) (a1_2 : Int) (a1_3 : Int) (a1_4 : Int) : Option ((List (S26)) × Int) := (waiting_Check.f l0).bind fun t117 => (if t117 = 0 then ((waiting_valid.f a1_0 a1_1 a1_2 a1_3 a1_4).bind fun t118 => (if t118 = true then ((waiting_find.f l0 a1_0 a1_1 a1_2).bind fun t119 => (waiting_Join.j0 k l0 (decide (t119 ≥ 0)) a1_0 a1_1 a1_2 a1_3 a1_4)) else (waiting_Join.j0 k l0 true a1_0 a1_1 a1_2 a1_3 a1_4))) else (some (([] : List (S26)), t117)))
theorem waiting_Join.mono_l : ∀ k, (∀ y0 y1 y2 y3 y4 y5 y6, LeO (waiting_Join.j0 k y0 y1 y2 y3 y4 y5 y6) (waiting_Join.j0 (k + 1) y0 y1 y2 y3 y4 y5 y6))
  | 0 => fun _ _ _ _ _ _ _ r h => by simp [waiting_Join.j0] at h
  | k + 1 => by
    have ih0 := waiting_Join.mono_l k
    · intro y0 y1 y2 y3 y4 y5 y6
      unfold waiting_Join.j0
      repeat' first
      | (with_reducible exact ih0 _ _ _ _ _ _ _)
      | (with_reducible exact api_Wait_30.mono _ _ _ _ _ _ _ _)
      | (with_reducible exact LeO.refl _)
      | (with_reducible exact LeO.none _)
      | (with_reducible refine LeO.ite ?_ ?_)
      | (with_reducible refine LeO.bind ?_ (fun _ => ?_))
      | exact ih0 _ _ _ _ _ _ _
      | exact api_Wait_30.mono _ _ _ _ _ _ _ _
      | exact LeO.none _
      | refine LeO.ite ?_ ?_
      | refine LeO.bind ?_ (fun _ => ?_)
theorem waiting_Join.mono : ∀ a0 a1 a2 a3 a4 a5 k, LeO (waiting_Join.f k a0 a1 a2 a3 a4 a5) (waiting_Join.f (k + 1) a0 a1 a2 a3 a4 a5) := by
 intro a0 a1 a2 a3 a4 a5 k; have ih0 := waiting_Join.mono_l k; unfold waiting_Join.f
 repeat' first
     | (with_reducible exact ih0 _ _ _ _ _ _ _)
     | (with_reducible exact api_Wait_30.mono _ _ _ _ _ _ _ _)
     | (with_reducible exact LeO.refl _)
     | (with_reducible exact LeO.none _)
     | (with_reducible refine LeO.ite ?_ ?_)
     | (with_reducible refine LeO.bind ?_ (fun _ => ?_))
     | exact ih0 _ _ _ _ _ _ _
     | exact api_Wait_30.mono _ _ _ _ _ _ _ _
     | exact LeO.none _
     | refine LeO.ite ?_ ?_
     | refine LeO.bind ?_ (fun _ => ?_)
def waiting_Join.T7 : Bool × List (List Nat × List Nat) := (true, [([], []), ([0], [0]), ([], []), ([], []), ([3], [3]), ([1, 2, 4, 1], [1, 2, 4]), ([5, 5, 0, 1, 2, 3, 4, 5], [5]), ([6, 0, 1, 2, 3, 4, 5, 6], [])])
def waiting_Join.B7 : List Nat := [0, 1, 0, 0, 8, 31, 63, 127]
theorem waiting_Join.tab7 : rtab .any (opsOf Try.f12 7) = waiting_Join.T7 := by kernel_rfl
theorem waiting_Join.bits7 : waitsOk waiting_Join.T7.2 waiting_Join.B7 = true := by kernel_rfl
set_option maxHeartbeats 8000000 in
set_option maxRecDepth 100000 in
theorem waiting_Join.calls (k : Nat) (A0 : Option Addr) (c0 : Nat) (l0 : List (S26)) (a1_0 : Int) (a1_1 : Int) (a1_2 : Int) (a1_3 : Int) (a1_4 : Int) (r1 : List (S26)) (r2 : Int) (w : World) (hr0 : Kd.C k26 w A0 l0.length l0) (hc0 : l0.length ≤ c0) (h : waiting_Join.f k l0 a1_0 a1_1 a1_2 a1_3 a1_4 = some (r1, r2)) :
    Calls Try.prog 12 #[.slice A0 l0.length c0, .agg #[.int .i64 a1_0, .int .i64 a1_1, .int .i64 a1_2, .int .i64 a1_3, .int .i64 a1_4]] w fun e w' => ∃ v0_ : Value, e = .returned (.tuple #[v0_, .int .i64 r2]) ∧ Kd.R k26 26 w' w.heap.size (fun _ => True) v0_ r1 ∧ Below w.heap.size w w' := by
 have hu26 := Try.underlying26; have hu24 := Try.underlying24; have HR0 := Aside0.mk hr0; have HC0 := Aside0.mk hc0; clear hr0 hc0; have HB := Aside0.mk (Below.refl w.heap.size w); have H : ((waiting_Check.f l0).bind fun t117 => (if t117 = 0 then ((waiting_valid.f a1_0 a1_1 a1_2 a1_3 a1_4).bind fun t118 => (if t118 = true then ((waiting_find.f l0 a1_0 a1_1 a1_2).bind fun t119 => (waiting_Join.j0 k l0 (decide (t119 ≥ 0)) a1_0 a1_1 a1_2 a1_3 a1_4)) else (waiting_Join.j0 k l0 true a1_0 a1_1 a1_2 a1_3 a1_4))) else (some (([] : List (S26)), t117)))) = some (r1, r2) := h; clear h; replace H := Option.bind_eq_some_iff.mp H; obtain ⟨t117, A30, H⟩ := H; replace H : (if t117 = 0 then ((waiting_valid.f a1_0 a1_1 a1_2 a1_3 a1_4).bind fun t118 => (if t118 = true then ((waiting_find.f l0 a1_0 a1_1 a1_2).bind fun t119 => (waiting_Join.j0 k l0 (decide (t119 ≥ 0)) a1_0 a1_1 a1_2 a1_3 a1_4)) else (waiting_Join.j0 k l0 true a1_0 a1_1 a1_2 a1_3 a1_4))) else (some (([] : List (S26)), t117))) = some (r1, r2) := H; have A3 := Aside0.mk A30; clear A30; by_cases c4 : t117 = 0
 ·rw [if_pos c4] at H; have c4b0 : (t117 == 0) = true := beq_iff_eq.mpr c4; have c4b1 : (t117 != 0) = false := bne_eq_false_iff_eq.mpr c4; clear c4; have HC5 := Aside0.mk H; clear H; go_enter Try.func12, Try.ntmps12; go_upto_region 4 with (first | ((with_reducible refine gate_dst (N := 3) rfl ?_); refine box_event ?hg (N := 3) ?hd (cs := #[.int .i64 a1_0, .int .i64 a1_1, .int .i64 a1_2, .int .i64 a1_3, .int .i64 a1_4]) (t := 26) ?hr ?_; (case hd => rfl); (case hg => rfl); (case hr => first | (go_simp; done) | (go_simp; rfl)); intro gb116 hg w6 hbox hb; have n0_ := Aside0.mk (below_step (by repeat (first | (with_reducible first | exact HB.out | apply below_alloc | apply pw_below_drewN | apply below_drew1) | exact HB.out)) hb); have n1_ := Aside0.mk (hbox); have n2_ := Aside0.mk ((by rw [hg]; exact (below_size (by repeat (first | (with_reducible first | exact HB.out | apply below_alloc | apply pw_below_drewN | apply below_drew1) | exact HB.out))) : w.heap.size ≤ gb116)); have n3_ := Aside0.mk ((by rw [hg]; exact (below_size (by repeat (first | (with_reducible first | exact HB.out | apply below_alloc | apply pw_below_drewN | apply below_drew1) | exact HB.out))) : w.heap.size ≤ gb116)); clear HB; have HB := n0_; have BK116 := n1_; have GW116 := n2_; have GE116 := n3_; clear n0_ n1_ n2_ n3_; clear hb hbox hg) | ((with_reducible refine gate_callee (f := 17) rfl ?_); refine goesL_ (some 10) rfl rfl Try.func17 (by kernel_rfl) rfl #[.slice A0 l0.length c0] rfl (by (try simp only [List.map_toArray, List.map_cons, List.map_nil]); first | done | rfl | (simp only [List.length_drop, List.length_take]; rfl)) ?_; (with_reducible refine (waiting_Check.calls _ _ l0 t117 _ ?side1 ?side2 A3.out).mono ?_); (case side1 => repeat (first | exact (Kd.C_below HR0.out HB.out) | (with_reducible refine Kd.C_alloc ?_ _) | (with_reducible refine Kd.C_drewN ?_ _) | (with_reducible refine Kd.C_drew ?_))); (case side2 => exact HC0.out); rintro e w7 ⟨rfl, hb⟩; refine ⟨_, rfl, ?_⟩; have n0_ := Aside0.mk (blk_below (g := gb116) (o := .cells #[.int .i64 a1_0, .int .i64 a1_1, .int .i64 a1_2, .int .i64 a1_3, .int .i64 a1_4] 26 (0, 0)) (by (with_reducible repeat (first | refine blk_drewN ?_ _ | refine blk_drew ?_ | refine blk_alloc ?_ _)); exact BK116.out) hb); have n1_ := Aside0.mk (below_step (by repeat (first | (with_reducible first | exact HB.out | apply below_alloc | apply pw_below_drewN | apply below_drew1 | refine below_set ?_ GE116.out) | exact HB.out)) hb); clear BK116; clear HB; have BK116 := n0_; have HB := n1_; clear n0_ n1_; (try clear hb); (try clear hb2); (try clear hk); (try clear hi)))
  (try simp only [Act.put, sqA, sqB, sqC])
  go_cut [25] (fun v25 wc => ∃ (kq : Nat) (x25_4 : Bool), v25 = .bool x25_4 ∧ Aside0 (waiting_Join.j0 kq l0 x25_4 a1_0 a1_1 a1_2 a1_3 a1_4 = some (r1, r2)) ∧ Aside0 (kq ≤ k) ∧ Aside0 (wc.heap[gb116]? = some (.cells #[.int .i64 a1_0, .int .i64 a1_1, .int .i64 a1_2, .int .i64 a1_3, .int .i64 a1_4] 26 (0, 0))) ∧ Aside0 (Below w.heap.size w wc))
  case first =>
   have H := HC5.out; clear HC5; replace H := Option.bind_eq_some_iff.mp H; obtain ⟨t118, A80, H⟩ := H; replace H : (if t118 = true then ((waiting_find.f l0 a1_0 a1_1 a1_2).bind fun t119 => (waiting_Join.j0 k l0 (decide (t119 ≥ 0)) a1_0 a1_1 a1_2 a1_3 a1_4)) else (waiting_Join.j0 k l0 true a1_0 a1_1 a1_2 a1_3 a1_4)) = some (r1, r2) := H; have A8 := Aside0.mk A80; clear A80; by_cases c9 : t118 = true
   ·subst c9; have H1 : ((waiting_find.f l0 a1_0 a1_1 a1_2).bind fun t119 => (waiting_Join.j0 k l0 (decide (t119 ≥ 0)) a1_0 a1_1 a1_2 a1_3 a1_4)) = some (r1, r2) := by rw [if_pos rfl] at H; exact H
    clear H; have H := H1; clear H1; replace H := Option.bind_eq_some_iff.mp H; obtain ⟨t119, A100, H⟩ := H; replace H : (waiting_Join.j0 k l0 (decide (t119 ≥ 0)) a1_0 a1_1 a1_2 a1_3 a1_4) = some (r1, r2) := H; have A10 := Aside0.mk A100; clear A100; have H' := Aside0.mk H; clear H; have hcz11_0 : w7.cell? ⟨gb116, 0, none⟩ = some (.int .i64 a1_0) := (blk_cell BK116.out 0).trans rfl; have hcz11_1 : w7.cell? ⟨gb116, 1, none⟩ = some (.int .i64 a1_1) := (blk_cell BK116.out 1).trans rfl; have hcz11_2 : w7.cell? ⟨gb116, 2, none⟩ = some (.int .i64 a1_2) := (blk_cell BK116.out 2).trans rfl; have hcz11_3 : w7.cell? ⟨gb116, 3, none⟩ = some (.int .i64 a1_3) := (blk_cell BK116.out 3).trans rfl; have hcz11_4 : w7.cell? ⟨gb116, 4, none⟩ = some (.int .i64 a1_4) := (blk_cell BK116.out 4).trans rfl; have hfz11_0 := blk_frozen BK116.out 0; have hfz11_1 := blk_frozen BK116.out 1; have hfz11_2 := blk_frozen BK116.out 2; have hfz11_3 := blk_frozen BK116.out 3; have hfz11_4 := blk_frozen BK116.out 4; go_wp2_with (first | ((with_reducible refine gate_callee (f := 28) rfl ?_); refine goesL_ (some 15) rfl rfl Try.func28 (by kernel_rfl) rfl #[.agg #[.int .i64 a1_0, .int .i64 a1_1, .int .i64 a1_2, .int .i64 a1_3, .int .i64 a1_4]] rfl (by (try simp only [List.map_toArray, List.map_cons, List.map_nil]); first | done | rfl | (simp only [List.length_drop, List.length_take]; rfl)) ?_; (with_reducible refine (waiting_valid.calls a1_0 a1_1 a1_2 a1_3 a1_4 true _ A8.out).mono ?_); rintro e w12 ⟨rfl, hb⟩; refine ⟨_, rfl, ?_⟩; have n0_ := Aside0.mk (blk_below (g := gb116) (o := .cells #[.int .i64 a1_0, .int .i64 a1_1, .int .i64 a1_2, .int .i64 a1_3, .int .i64 a1_4] 26 (0, 0)) (by (with_reducible repeat (first | refine blk_drewN ?_ _ | refine blk_drew ?_ | refine blk_alloc ?_ _)); exact BK116.out) hb); have n1_ := Aside0.mk (below_step (by repeat (first | (with_reducible first | exact HB.out | apply below_alloc | apply pw_below_drewN | apply below_drew1 | refine below_set ?_ GE116.out) | exact HB.out)) hb); clear BK116; clear HB; have BK116 := n0_; have HB := n1_; clear n0_ n1_; (try clear hb); (try clear hb2); (try clear hk); (try clear hi); have hcz13_0 : w12.cell? ⟨gb116, 0, none⟩ = some (.int .i64 a1_0) := (blk_cell BK116.out 0).trans rfl; have hcz13_1 : w12.cell? ⟨gb116, 1, none⟩ = some (.int .i64 a1_1) := (blk_cell BK116.out 1).trans rfl; have hcz13_2 : w12.cell? ⟨gb116, 2, none⟩ = some (.int .i64 a1_2) := (blk_cell BK116.out 2).trans rfl; have hcz13_3 : w12.cell? ⟨gb116, 3, none⟩ = some (.int .i64 a1_3) := (blk_cell BK116.out 3).trans rfl; have hcz13_4 : w12.cell? ⟨gb116, 4, none⟩ = some (.int .i64 a1_4) := (blk_cell BK116.out 4).trans rfl; have hfz13_0 := blk_frozen BK116.out 0; have hfz13_1 := blk_frozen BK116.out 1; have hfz13_2 := blk_frozen BK116.out 2; have hfz13_3 := blk_frozen BK116.out 3; have hfz13_4 := blk_frozen BK116.out 4) | (go_at_call 29; (with_reducible refine (waiting_find.calls _ _ l0 a1_0 a1_1 a1_2 t119 _ ?side1 ?side2 A10.out).mono ?_); (case side1 => repeat (first | exact (Kd.C_below HR0.out HB.out) | (with_reducible refine Kd.C_alloc ?_ _) | (with_reducible refine Kd.C_drewN ?_ _) | (with_reducible refine Kd.C_drew ?_))); (case side2 => exact HC0.out); rintro e w14 ⟨rfl, hb⟩; have n0_ := Aside0.mk (blk_below (g := gb116) (o := .cells #[.int .i64 a1_0, .int .i64 a1_1, .int .i64 a1_2, .int .i64 a1_3, .int .i64 a1_4] 26 (0, 0)) (by (with_reducible repeat (first | refine blk_drewN ?_ _ | refine blk_drew ?_ | refine blk_alloc ?_ _)); exact BK116.out) hb); have n1_ := Aside0.mk (below_step (by repeat (first | (with_reducible first | exact HB.out | apply below_alloc | apply pw_below_drewN | apply below_drew1 | refine below_set ?_ GE116.out) | exact HB.out)) hb); clear BK116; clear HB; have BK116 := n0_; have HB := n1_; clear n0_ n1_; (try clear hb); (try clear hb2); (try clear hk); (try clear hi)))
    go_meet
    case rel => exact ⟨_, (decide (t119 ≥ 0)), (by first | rfl | (simp; done) | (simp [*]; done)), H', ⟨by first | omega | exact Nat.le_refl _⟩, ⟨by (with_reducible repeat (first | refine blk_drewN ?_ _ | refine blk_drew ?_ | refine blk_alloc ?_ _)); exact BK116.out⟩, ⟨by repeat (first | (with_reducible first | exact HB.out | apply below_alloc | apply pw_below_drewN | apply below_drew1 | refine below_set ?_ GE116.out) | exact HB.out)⟩⟩
   ·replace c9 := Bool.eq_false_iff.mpr c9; subst c9; have H1 : (waiting_Join.j0 k l0 true a1_0 a1_1 a1_2 a1_3 a1_4) = some (r1, r2) := by rw [if_neg (show ¬ (false = true) by decide)] at H; exact H
    clear H; have H := H1; clear H1; have H' := Aside0.mk H; clear H; have hcz15_0 : w7.cell? ⟨gb116, 0, none⟩ = some (.int .i64 a1_0) := (blk_cell BK116.out 0).trans rfl; have hcz15_1 : w7.cell? ⟨gb116, 1, none⟩ = some (.int .i64 a1_1) := (blk_cell BK116.out 1).trans rfl; have hcz15_2 : w7.cell? ⟨gb116, 2, none⟩ = some (.int .i64 a1_2) := (blk_cell BK116.out 2).trans rfl; have hcz15_3 : w7.cell? ⟨gb116, 3, none⟩ = some (.int .i64 a1_3) := (blk_cell BK116.out 3).trans rfl; have hcz15_4 : w7.cell? ⟨gb116, 4, none⟩ = some (.int .i64 a1_4) := (blk_cell BK116.out 4).trans rfl; have hfz15_0 := blk_frozen BK116.out 0; have hfz15_1 := blk_frozen BK116.out 1; have hfz15_2 := blk_frozen BK116.out 2; have hfz15_3 := blk_frozen BK116.out 3; have hfz15_4 := blk_frozen BK116.out 4; go_wp2_with (first | ((with_reducible refine gate_callee (f := 28) rfl ?_); refine goesL_ (some 15) rfl rfl Try.func28 (by kernel_rfl) rfl #[.agg #[.int .i64 a1_0, .int .i64 a1_1, .int .i64 a1_2, .int .i64 a1_3, .int .i64 a1_4]] rfl (by (try simp only [List.map_toArray, List.map_cons, List.map_nil]); first | done | rfl | (simp only [List.length_drop, List.length_take]; rfl)) ?_; (with_reducible refine (waiting_valid.calls a1_0 a1_1 a1_2 a1_3 a1_4 false _ A8.out).mono ?_); rintro e w16 ⟨rfl, hb⟩; refine ⟨_, rfl, ?_⟩; have n0_ := Aside0.mk (blk_below (g := gb116) (o := .cells #[.int .i64 a1_0, .int .i64 a1_1, .int .i64 a1_2, .int .i64 a1_3, .int .i64 a1_4] 26 (0, 0)) (by (with_reducible repeat (first | refine blk_drewN ?_ _ | refine blk_drew ?_ | refine blk_alloc ?_ _)); exact BK116.out) hb); have n1_ := Aside0.mk (below_step (by repeat (first | (with_reducible first | exact HB.out | apply below_alloc | apply pw_below_drewN | apply below_drew1 | refine below_set ?_ GE116.out) | exact HB.out)) hb); clear BK116; clear HB; have BK116 := n0_; have HB := n1_; clear n0_ n1_; (try clear hb); (try clear hb2); (try clear hk); (try clear hi)))
    go_meet
    case rel => exact ⟨_, (true), (by first | rfl | (simp; done) | (simp [*]; done)), H', ⟨by first | omega | exact Nat.le_refl _⟩, ⟨by (with_reducible repeat (first | refine blk_drewN ?_ _ | refine blk_drew ?_ | refine blk_alloc ?_ _)); exact BK116.out⟩, ⟨by repeat (first | (with_reducible first | exact HB.out | apply below_alloc | apply pw_below_drewN | apply below_drew1 | refine below_set ?_ GE116.out) | exact HB.out)⟩⟩
  case rest =>
   clear HC5
   try clear c1
   try clear c2
   try clear p2
   try clear c4
   try clear c4b0
   try clear c4b1
   try clear c9
   try clear c12
   try clear hcz11_0
   try clear hcz11_1
   try clear hcz11_2
   try clear hcz11_3
   try clear hcz11_4
   try clear hcz13_0
   try clear hcz13_1
   try clear hcz13_2
   try clear hcz13_3
   try clear hcz13_4
   try clear hcz15_0
   try clear hcz15_1
   try clear hcz15_2
   try clear hcz15_3
   try clear hcz15_4
   try clear hfz11_0
   try clear hfz11_1
   try clear hfz11_2
   try clear hfz11_3
   try clear hfz11_4
   try clear hfz13_0
   try clear hfz13_1
   try clear hfz13_2
   try clear hfz13_3
   try clear hfz13_4
   try clear hfz15_0
   try clear hfz15_1
   try clear hfz15_2
   try clear hfz15_3
   try clear hfz15_4
   obtain ⟨kq, x25_4, rfl, HA, HJ4, BK116, HB⟩ := hcut; cases kq with
   | zero => exact absurd HA.out (by simp [waiting_Join.j0])
   | succ kj4 =>
    have H := HA.out; clear HA; simp only [waiting_Join.j0] at H; by_cases c17 : x25_4 = true
    ·subst c17; have H1 : (some (([] : List (S26)), 260)) = some (r1, r2) := by rw [if_pos rfl] at H; exact H
     clear H; have H := H1; clear H1; simp only [Option.some.injEq, Prod.mk.injEq] at H; obtain ⟨rfl, rfl⟩ := H; go_wp2
     go_ret2
     exact ⟨_, by first | rfl | (simp [errW_none, errW_some] <;> rfl) | (simp [*, errW_none, errW_some] <;> rfl), by first | exact Kd.R_nil _ _ _ _ _ | exact Kd.N_nil _ _ _ _ _ | exact Kd.V_nil _ _ _ _ _ | exact Kd.Q_nil _ _ _ _ _ | exact Kd.S_nil _ _ _ _ _, by repeat (first | (with_reducible first | exact HB.out | apply below_alloc | apply pw_below_drewN | apply below_drew1 | refine below_set ?_ GE116.out) | exact HB.out)⟩
    ·replace c17 := Bool.eq_false_iff.mpr c17; subst c17; have H1 : ((api_Wait_30.f kj4 l0 a1_0 a1_1 a1_2 a1_3 a1_4 ()).bind fun bt120 => ((api_Wait_33.f l0).bind fun t122 => ((api_Wait_32.f t122 bt120.1 (([(⟨a1_0, (⟨a1_1, a1_2⟩ : S24), a1_3, a1_4⟩ : S26)] : List (S26)))).bind fun t128 => (some (t128, 0))))) = some (r1, r2) := by rw [if_neg (show ¬ (false = true) by decide)] at H; exact H
     clear H; have H := H1; clear H1; replace H := Option.bind_eq_some_iff.mp H; obtain ⟨⟨t120, t121⟩, A180, H⟩ := H; replace H : ((api_Wait_33.f l0).bind fun t122 => ((api_Wait_32.f t122 t120 (([(⟨a1_0, (⟨a1_1, a1_2⟩ : S24), a1_3, a1_4⟩ : S26)] : List (S26)))).bind fun t128 => (some (t128, 0)))) = some (r1, r2) := H; have A18 := Aside0.mk A180; clear A180; replace H := Option.bind_eq_some_iff.mp H; obtain ⟨t122, A190, H⟩ := H; replace H : ((api_Wait_32.f t122 t120 (([(⟨a1_0, (⟨a1_1, a1_2⟩ : S24), a1_3, a1_4⟩ : S26)] : List (S26)))).bind fun t128 => (some (t128, 0))) = some (r1, r2) := H; have A19 := Aside0.mk A190; clear A190; obtain ⟨y125, hy125⟩ : ∃ y_ : List (S26), y_ = (([(⟨a1_0, (⟨a1_1, a1_2⟩ : S24), a1_3, a1_4⟩ : S26)] : List (S26))) := ⟨_, rfl⟩
     replace H : ((api_Wait_32.f t122 t120 y125).bind fun t128 => (some (t128, 0))) = some (r1, r2) := by first | (rw [hy125]; with_reducible exact H) | (have H2_ := (Option.bind_some _ _).symm.trans H; rw [hy125]; with_reducible exact H2_) | (have H2_ := (Option.bind_some _ _).symm.trans H; with_reducible exact H2_) | with_reducible exact H | (rw [hy125]; exact H) | exact H
     have Ny125 := Aside0.mk hy125; clear hy125; replace H := Option.bind_eq_some_iff.mp H; obtain ⟨t128, A200, H⟩ := H; replace H : (some (t128, 0)) = some (r1, r2) := H; have A20 := Aside0.mk A200; clear A200; simp only [Option.some.injEq, Prod.mk.injEq] at H; obtain ⟨rfl, rfl⟩ := H; have hcz21_0 : wc.cell? ⟨gb116, 0, none⟩ = some (.int .i64 a1_0) := (blk_cell BK116.out 0).trans rfl; have hcz21_1 : wc.cell? ⟨gb116, 1, none⟩ = some (.int .i64 a1_1) := (blk_cell BK116.out 1).trans rfl; have hcz21_2 : wc.cell? ⟨gb116, 2, none⟩ = some (.int .i64 a1_2) := (blk_cell BK116.out 2).trans rfl; have hcz21_3 : wc.cell? ⟨gb116, 3, none⟩ = some (.int .i64 a1_3) := (blk_cell BK116.out 3).trans rfl; have hcz21_4 : wc.cell? ⟨gb116, 4, none⟩ = some (.int .i64 a1_4) := (blk_cell BK116.out 4).trans rfl; have hfz21_0 := blk_frozen BK116.out 0; have hfz21_1 := blk_frozen BK116.out 1; have hfz21_2 := blk_frozen BK116.out 2; have hfz21_3 := blk_frozen BK116.out 3; have hfz21_4 := blk_frozen BK116.out 4
     try go_wp2_with (first | ((with_reducible refine gate_callee (f := 30) rfl ?_); refine goesL_ (some 29) rfl rfl Try.func30 (by kernel_rfl) rfl #[.slice A0 l0.length c0, .agg #[.int .i64 a1_0, .int .i64 a1_1, .int .i64 a1_2, .int .i64 a1_3, .int .i64 a1_4], .func (.func 31) #[] #[]] rfl (by (try simp only [List.map_toArray, List.map_cons, List.map_nil]); first | done | rfl | (simp only [List.length_drop, List.length_take]; rfl)) ?_; (with_reducible refine (api_Wait_30.calls kj4 _ _ l0 a1_0 a1_1 a1_2 a1_3 a1_4 () t120 t121 _ ?side1 ?side2 A18.out).mono ?_); (case side1 => repeat (first | exact (Kd.C_below HR0.out HB.out) | (with_reducible refine Kd.C_alloc ?_ _) | (with_reducible refine Kd.C_drewN ?_ _) | (with_reducible refine Kd.C_drew ?_))); (case side2 => exact HC0.out); rintro e w22 ⟨rfl, hb⟩; refine ⟨_, rfl, ?_⟩; have n0_ := Aside0.mk (blk_below (g := gb116) (o := .cells #[.int .i64 a1_0, .int .i64 a1_1, .int .i64 a1_2, .int .i64 a1_3, .int .i64 a1_4] 26 (0, 0)) (by (with_reducible repeat (first | refine blk_drewN ?_ _ | refine blk_drew ?_ | refine blk_alloc ?_ _)); exact BK116.out) hb); have n1_ := Aside0.mk (below_step (by repeat (first | (with_reducible first | exact HB.out | apply below_alloc | apply pw_below_drewN | apply below_drew1 | refine below_set ?_ GE116.out) | exact HB.out)) hb); clear BK116; clear HB; have BK116 := n0_; have HB := n1_; clear n0_ n1_; (try clear hb); (try clear hb2); (try clear hk); (try clear hi)))
     have n0_ := Aside0.mk (blk_drew BK116.out); have n1_ := Aside0.mk (below_drew1 HB.out); clear BK116; clear HB; have BK116 := n0_; have HB := n1_; clear n0_ n1_; refine start_ (n := 8) (S := fun w' => w'.cell? ⟨gb116, 0, none⟩ = some (.int .i64 a1_0) ∧ w'.cell? ⟨gb116, 1, none⟩ = some (.int .i64 a1_1) ∧ w'.cell? ⟨gb116, 2, none⟩ = some (.int .i64 a1_2) ∧ w'.cell? ⟨gb116, 3, none⟩ = some (.int .i64 a1_3) ∧ w'.cell? ⟨gb116, 4, none⟩ = some (.int .i64 a1_4)) (ds := []) #[nF,nF,nF,nF,nF,nF,nF,nF] (by kernel_rfl) rfl rfl ⟨(blk_cell BK116.out 0).trans rfl, (blk_cell BK116.out 1).trans rfl, (blk_cell BK116.out 2).trans rfl, (blk_cell BK116.out 3).trans rfl, (blk_cell BK116.out 4).trans rfl⟩ (fun hHeld => ?_); refine with_tabW waiting_Join.tab7 waiting_Join.bits7 (fun HT_ HW_ => ?_); generalize w22.drew = w23 at BK116 HB hHeld ⊢; refine pure_ (i := 0) (N := some 32) (v := ?_) (a' := ?_) #[yT,nF,nF,nF,nF,nF,nF,nF] rfl rfl (any_of HT_.out (by kernel_rfl)) (fun _ _ _ h => h) (Or.inl ⟨by rfl, ?_⟩) ?_ ?_; rotate_left; (intro w'; go_simp; with_reducible rfl); rotate_left; (simp only [Act.put, sqA, sqB, sqC, i64_w, i32_w]; rfl); refine pure_ (i := 2) (N := some 34) (v := ?_) (a' := ?_) #[yT,nF,yT,nF,nF,nF,nF,nF] rfl rfl (any_of HT_.out (by kernel_rfl)) (fun _ _ _ h => h) (Or.inl ⟨by rfl, ?_⟩) ?_ ?_; rotate_left; (intro w'; go_simp; with_reducible rfl); rotate_left; (simp only [Act.put, sqA, sqB, sqC, i64_w, i32_w]; rfl); refine take_ (i := 3) (N := some 35) (v := ?_) (a' := ?_) #[yT,nF,yT,yT,nF,nF,nF,nF] rfl rfl (take_ofW HT_.out HW_.out (by kernel_rfl)) (fun _ _ _ h => h) (Or.inl ⟨by rfl, ?_⟩) hHeld ?_ ?_; rotate_left; (rintro w' ⟨s0, s1, s2, s3, s4⟩; go_simp; with_reducible rfl); rotate_left; (simp only [Act.put, sqA, sqB, sqC, i64_w, i32_w]; rfl); refine join_ (σ := Value × Value) 3 #[yT,yT,yT,yT,yT,nF,nF,nF] (fun s_ => [(33, s_.1), (36, s_.2)]) (fun s_ w' => (w'.cell? ⟨gb116, 0, none⟩ = some (.int .i64 a1_0) ∧ w'.cell? ⟨gb116, 1, none⟩ = some (.int .i64 a1_1) ∧ w'.cell? ⟨gb116, 2, none⟩ = some (.int .i64 a1_2) ∧ w'.cell? ⟨gb116, 3, none⟩ = some (.int .i64 a1_3) ∧ w'.cell? ⟨gb116, 4, none⟩ = some (.int .i64 a1_4)) ∧ (Kd.R k26 26 w' w.heap.size (fun k_ => some k_ ≠ (s_.2 : Value).ownBlock ∧ k_ ≠ gb116) s_.1 t122) ∧ (Kd.R k26 26 w' w.heap.size (fun k_ => some k_ ≠ (s_.1 : Value).ownBlock ∧ k_ ≠ gb116) s_.2 y125) ∧ (w'.heap[gb116]? = some (.cells #[.int .i64 a1_0, .int .i64 a1_1, .int .i64 a1_2, .int .i64 a1_3, .int .i64 a1_4] 26 (0, 0))) ∧ (Below w.heap.size w w')) ?_ ?_; rotate_left
     ·intro hCont; refine two_ (i := 1) (j := 4) (Ni := some 33) (Nj := some 36) #[yT,yT,yT,yT,nF,nF,nF,nF] #[yT,nF,yT,yT,yT,nF,nF,nF] rfl rfl rfl rfl (two_of HT_.out (by kernel_rfl)) (by decide) (by decide) (fun K hK => ?_) (fun K hK => ?_)
      ·skip
       refine goes_ Try.func33 (by kernel_rfl) rfl #[.slice A0 l0.length c0] (by rfl) rfl rfl (by (try simp only [List.map_toArray, List.map_cons, List.map_nil]); first | done | rfl | (simp only [List.length_drop, List.length_take]; rfl)) ?_; with_reducible refine (api_Wait_33.calls _ _ l0 t122 _ ?side1 ?side2 A19.out).mono ?_
       (case side1 => repeat (first | exact (Kd.C_below HR0.out HB.out) | (with_reducible refine Kd.C_alloc ?_ _) | (with_reducible refine Kd.C_drewN ?_ _) | (with_reducible refine Kd.C_drew ?_)))
       (case side2 => exact HC0.out)
       rintro e w24 ⟨v123, rfl, ho0, hb⟩; refine ⟨_, rfl, ?_⟩; have n0_ := Aside0.mk (Kd.R_lower (Kd.R_newB ho0 (g := gb116) (o := .cells #[.int .i64 a1_0, .int .i64 a1_1, .int .i64 a1_2, .int .i64 a1_3, .int .i64 a1_4] 26 (0, 0)) (by (with_reducible repeat (first | refine blk_drewN ?_ _ | refine blk_drew ?_ | refine blk_alloc ?_ _)); exact BK116.out)) (below_size (by repeat (first | (with_reducible first | exact HB.out | apply below_alloc | apply pw_below_drewN | apply below_drew1 | refine below_set ?_ GE116.out) | exact HB.out)))); have n1_ := Aside0.mk (blk_below (g := gb116) (o := .cells #[.int .i64 a1_0, .int .i64 a1_1, .int .i64 a1_2, .int .i64 a1_3, .int .i64 a1_4] 26 (0, 0)) (by (with_reducible repeat (first | refine blk_drewN ?_ _ | refine blk_drew ?_ | refine blk_alloc ?_ _)); exact BK116.out) hb); have n2_ := Aside0.mk (below_step (by repeat (first | (with_reducible first | exact HB.out | apply below_alloc | apply pw_below_drewN | apply below_drew1 | refine below_set ?_ GE116.out) | exact HB.out)) hb); clear BK116; clear HB; have HO124 := n0_; have BK116 := n1_; have HB := n2_; clear n0_ n1_ n2_; (try clear hb)
       (try clear hb2)
       (try clear hk)
       (try clear hi)
       (try clear ho0)
       refine hK.out _ _ ⟨(blk_cell BK116.out 0).trans rfl, (blk_cell BK116.out 1).trans rfl, (blk_cell BK116.out 2).trans rfl, (blk_cell BK116.out 3).trans rfl, (blk_cell BK116.out 4).trans rfl⟩ (fun hHeld => ?_); clear hK K; refine norm_ (a' := ?_) ?_ ?_; rotate_left
       ·show Act.put _ (some 33) _ = _
        simp only [Act.put, sqA, sqB, sqC, i64_w, i32_w]; rfl
       refine one_ (i := 4) (N := some 36) #[yT,yT,yT,yT,yT,nF,nF,nF] rfl rfl (one_of HT_.out (by kernel_rfl)) (by decide) (fun K hK => ?_); refine Kd.R_lit_step k26 _ 26 ?hg (N := 36) ?hd (xs := ([(⟨a1_0, (⟨a1_1, a1_2⟩ : S24), a1_3, a1_4⟩ : S26)] : List (S26))) (inner := [.int .i64 a1_0, .int .i64 a1_1, .int .i64 a1_2, .int .i64 a1_3, .int .i64 a1_4]) (ok := fun _ => True) (okp := fun _ => True) ?hr ?hp (fun _ hk => hk) trivial (Below.refl _ _) (Nat.le_refl _) (by simp) ?_; (case hd => rfl); (case hg => rfl); (case hr => first | (go_simp; done) | (go_simp; rfl)); (case hp => exact (Reps.c5 (show Kd.M k26 _ _ _ (⟨a1_0, (⟨a1_1, a1_2⟩ : S24), a1_3, a1_4⟩ : S26) [.int .i64 a1_0, .int .i64 a1_1, .int .i64 a1_2, .int .i64 a1_3, .int .i64 a1_4] from (k26_mkM _ _ _ (⟨a1_0, (⟨a1_1, a1_2⟩ : S24), a1_3, a1_4⟩ : S26) )) (Reps.none _ _))); intro v126 w25 ho26 hb hg_ hnew_; clear hg_ hnew_; (first | rw [← Ny125.out] at ho26 | (simp only [Int.reduceToNat] at ho26; rw [← Ny125.out] at ho26))
       have n0_ := Aside0.mk (Kd.R_elder' (by (with_reducible repeat (first | apply Kd.R_alloc | apply Kd.R_drewN | apply Kd.R_drew)); exact HO124.out) (Kd.R_base ho26) hb); have n1_ := Aside0.mk (Kd.R_lower (Kd.R_newB (Kd.R_new' ho26 (Kd.R_lt (by (with_reducible repeat (first | apply Kd.R_alloc | apply Kd.R_drewN | apply Kd.R_drew)); exact HO124.out))) (g := gb116) (o := .cells #[.int .i64 a1_0, .int .i64 a1_1, .int .i64 a1_2, .int .i64 a1_3, .int .i64 a1_4] 26 (0, 0)) (by (with_reducible repeat (first | refine blk_drewN ?_ _ | refine blk_drew ?_ | refine blk_alloc ?_ _)); exact BK116.out)) (below_size (by repeat (first | (with_reducible first | exact HB.out | apply below_alloc | apply pw_below_drewN | apply below_drew1 | refine below_set ?_ GE116.out) | exact HB.out)))); have n2_ := Aside0.mk (blk_below (g := gb116) (o := .cells #[.int .i64 a1_0, .int .i64 a1_1, .int .i64 a1_2, .int .i64 a1_3, .int .i64 a1_4] 26 (0, 0)) (by (with_reducible repeat (first | refine blk_drewN ?_ _ | refine blk_drew ?_ | refine blk_alloc ?_ _)); exact BK116.out) hb); have n3_ := Aside0.mk (below_step (by repeat (first | (with_reducible first | exact HB.out | apply below_alloc | apply pw_below_drewN | apply below_drew1 | refine below_set ?_ GE116.out) | exact HB.out)) hb); clear HO124; clear BK116; clear HB; have HO124 := n0_; have HO127 := n1_; have BK116 := n2_; have HB := n3_; clear n0_ n1_ n2_ n3_; clear hb ho26; refine hK.out _ _ ⟨(blk_cell BK116.out 0).trans rfl, (blk_cell BK116.out 1).trans rfl, (blk_cell BK116.out 2).trans rfl, (blk_cell BK116.out 3).trans rfl, (blk_cell BK116.out 4).trans rfl⟩ (fun hHeld => ?_); clear hK K; refine norm_ (a' := ?_) ?_ ?_; rotate_left
       ·show Act.put _ (some 36) _ = _
        simp only [Act.put, sqA, sqB, sqC, i64_w, i32_w]; rfl
       exact norm_ (by simp only [putAll, Act.put, sqA, sqB, sqC]) (hCont (v123, v126) _ ⟨hHeld, (by (with_reducible repeat (first | apply Kd.R_alloc | apply Kd.R_drewN | apply Kd.R_drew)); exact Kd.R_mono HO124.out (fun _ hk => ⟨hk.2, hk.1.2⟩)), (by (with_reducible repeat (first | apply Kd.R_alloc | apply Kd.R_drewN | apply Kd.R_drew)); exact Kd.R_mono HO127.out (fun _ hk => ⟨hk.1.2, hk.2⟩)), (by (with_reducible repeat (first | refine blk_drewN ?_ _ | refine blk_drew ?_ | refine blk_alloc ?_ _)); exact BK116.out), (by repeat (first | (with_reducible first | exact HB.out | apply below_alloc | apply pw_below_drewN | apply below_drew1 | refine below_set ?_ GE116.out) | exact HB.out))⟩)
      ·skip
       refine Kd.R_lit_step k26 _ 26 ?hg (N := 36) ?hd (xs := ([(⟨a1_0, (⟨a1_1, a1_2⟩ : S24), a1_3, a1_4⟩ : S26)] : List (S26))) (inner := [.int .i64 a1_0, .int .i64 a1_1, .int .i64 a1_2, .int .i64 a1_3, .int .i64 a1_4]) (ok := fun _ => True) (okp := fun _ => True) ?hr ?hp (fun _ hk => hk) trivial (Below.refl _ _) (Nat.le_refl _) (by simp) ?_; (case hd => rfl); (case hg => rfl); (case hr => first | (go_simp; done) | (go_simp; rfl)); (case hp => exact (Reps.c5 (show Kd.M k26 _ _ _ (⟨a1_0, (⟨a1_1, a1_2⟩ : S24), a1_3, a1_4⟩ : S26) [.int .i64 a1_0, .int .i64 a1_1, .int .i64 a1_2, .int .i64 a1_3, .int .i64 a1_4] from (k26_mkM _ _ _ (⟨a1_0, (⟨a1_1, a1_2⟩ : S24), a1_3, a1_4⟩ : S26) )) (Reps.none _ _))); intro v126 w24 ho25 hb hg_ hnew_; clear hg_ hnew_; (first | rw [← Ny125.out] at ho25 | (simp only [Int.reduceToNat] at ho25; rw [← Ny125.out] at ho25))
       have n0_ := Aside0.mk (Kd.R_lower (Kd.R_newB ho25 (g := gb116) (o := .cells #[.int .i64 a1_0, .int .i64 a1_1, .int .i64 a1_2, .int .i64 a1_3, .int .i64 a1_4] 26 (0, 0)) (by (with_reducible repeat (first | refine blk_drewN ?_ _ | refine blk_drew ?_ | refine blk_alloc ?_ _)); exact BK116.out)) (below_size (by repeat (first | (with_reducible first | exact HB.out | apply below_alloc | apply pw_below_drewN | apply below_drew1 | refine below_set ?_ GE116.out) | exact HB.out)))); have n1_ := Aside0.mk (blk_below (g := gb116) (o := .cells #[.int .i64 a1_0, .int .i64 a1_1, .int .i64 a1_2, .int .i64 a1_3, .int .i64 a1_4] 26 (0, 0)) (by (with_reducible repeat (first | refine blk_drewN ?_ _ | refine blk_drew ?_ | refine blk_alloc ?_ _)); exact BK116.out) hb); have n2_ := Aside0.mk (below_step (by repeat (first | (with_reducible first | exact HB.out | apply below_alloc | apply pw_below_drewN | apply below_drew1 | refine below_set ?_ GE116.out) | exact HB.out)) hb); clear BK116; clear HB; have HO127 := n0_; have BK116 := n1_; have HB := n2_; clear n0_ n1_ n2_; clear hb ho25; refine hK.out _ _ ⟨(blk_cell BK116.out 0).trans rfl, (blk_cell BK116.out 1).trans rfl, (blk_cell BK116.out 2).trans rfl, (blk_cell BK116.out 3).trans rfl, (blk_cell BK116.out 4).trans rfl⟩ (fun hHeld => ?_); clear hK K; refine norm_ (a' := ?_) ?_ ?_; rotate_left
       ·show Act.put _ (some 36) _ = _
        simp only [Act.put, sqA, sqB, sqC, i64_w, i32_w]; rfl
       refine one_ (i := 1) (N := some 33) #[yT,yT,yT,yT,yT,nF,nF,nF] rfl rfl (one_of HT_.out (by kernel_rfl)) (by decide) (fun K hK => ?_); refine goes_ Try.func33 (by kernel_rfl) rfl #[.slice A0 l0.length c0] (by rfl) rfl rfl (by (try simp only [List.map_toArray, List.map_cons, List.map_nil]); first | done | rfl | (simp only [List.length_drop, List.length_take]; rfl)) ?_; with_reducible refine (api_Wait_33.calls _ _ l0 t122 _ ?side1 ?side2 A19.out).mono ?_
       (case side1 => repeat (first | exact (Kd.C_below HR0.out HB.out) | (with_reducible refine Kd.C_alloc ?_ _) | (with_reducible refine Kd.C_drewN ?_ _) | (with_reducible refine Kd.C_drew ?_)))
       (case side2 => exact HC0.out)
       rintro e w26 ⟨v123, rfl, ho0, hb⟩; refine ⟨_, rfl, ?_⟩; have n0_ := Aside0.mk (Kd.R_elder' (by (with_reducible repeat (first | apply Kd.R_alloc | apply Kd.R_drewN | apply Kd.R_drew)); exact HO127.out) (Kd.R_base ho0) hb); have n1_ := Aside0.mk (Kd.R_lower (Kd.R_newB (Kd.R_new' ho0 (Kd.R_lt (by (with_reducible repeat (first | apply Kd.R_alloc | apply Kd.R_drewN | apply Kd.R_drew)); exact HO127.out))) (g := gb116) (o := .cells #[.int .i64 a1_0, .int .i64 a1_1, .int .i64 a1_2, .int .i64 a1_3, .int .i64 a1_4] 26 (0, 0)) (by (with_reducible repeat (first | refine blk_drewN ?_ _ | refine blk_drew ?_ | refine blk_alloc ?_ _)); exact BK116.out)) (below_size (by repeat (first | (with_reducible first | exact HB.out | apply below_alloc | apply pw_below_drewN | apply below_drew1 | refine below_set ?_ GE116.out) | exact HB.out)))); have n2_ := Aside0.mk (blk_below (g := gb116) (o := .cells #[.int .i64 a1_0, .int .i64 a1_1, .int .i64 a1_2, .int .i64 a1_3, .int .i64 a1_4] 26 (0, 0)) (by (with_reducible repeat (first | refine blk_drewN ?_ _ | refine blk_drew ?_ | refine blk_alloc ?_ _)); exact BK116.out) hb); have n3_ := Aside0.mk (below_step (by repeat (first | (with_reducible first | exact HB.out | apply below_alloc | apply pw_below_drewN | apply below_drew1 | refine below_set ?_ GE116.out) | exact HB.out)) hb); clear HO127; clear BK116; clear HB; have HO127 := n0_; have HO124 := n1_; have BK116 := n2_; have HB := n3_; clear n0_ n1_ n2_ n3_; (try clear hb)
       (try clear hb2)
       (try clear hk)
       (try clear hi)
       (try clear ho0)
       refine hK.out _ _ ⟨(blk_cell BK116.out 0).trans rfl, (blk_cell BK116.out 1).trans rfl, (blk_cell BK116.out 2).trans rfl, (blk_cell BK116.out 3).trans rfl, (blk_cell BK116.out 4).trans rfl⟩ (fun hHeld => ?_); clear hK K; refine norm_ (a' := ?_) ?_ ?_; rotate_left
       ·show Act.put _ (some 33) _ = _
        simp only [Act.put, sqA, sqB, sqC, i64_w, i32_w]; rfl
       exact norm_ (by simp only [putAll, Act.put, sqA, sqB, sqC]) (hCont (v123, v126) _ ⟨hHeld, (by (with_reducible repeat (first | apply Kd.R_alloc | apply Kd.R_drewN | apply Kd.R_drew)); exact Kd.R_mono HO124.out (fun _ hk => ⟨hk.1.2, hk.2⟩)), (by (with_reducible repeat (first | apply Kd.R_alloc | apply Kd.R_drewN | apply Kd.R_drew)); exact Kd.R_mono HO127.out (fun _ hk => ⟨hk.2, hk.1.2⟩)), (by (with_reducible repeat (first | refine blk_drewN ?_ _ | refine blk_drew ?_ | refine blk_alloc ?_ _)); exact BK116.out), (by repeat (first | (with_reducible first | exact HB.out | apply below_alloc | apply pw_below_drewN | apply below_drew1 | refine below_set ?_ GE116.out) | exact HB.out))⟩)
     rintro ⟨v123, v126⟩ w27 ⟨hS_, h0_, h1_, h2_, h3_⟩; have n0_ : Aside0 (Kd.R k26 26 w27 w.heap.size (fun k_ => some k_ ≠ (v126 : Value).ownBlock ∧ k_ ≠ gb116) v123 t122) := ⟨h0_⟩
     have n1_ : Aside0 (Kd.R k26 26 w27 w.heap.size (fun k_ => some k_ ≠ (v123 : Value).ownBlock ∧ k_ ≠ gb116) v126 y125) := ⟨h1_⟩
     have n2_ : Aside0 (w27.heap[gb116]? = some (.cells #[.int .i64 a1_0, .int .i64 a1_1, .int .i64 a1_2, .int .i64 a1_3, .int .i64 a1_4] 26 (0, 0))) := ⟨h2_⟩
     have n3_ : Aside0 (Below w.heap.size w w27) := ⟨h3_⟩
     clear BK116; clear HB; clear h0_ h1_ h2_ h3_; have HO124 := n0_; have HO127 := n1_; have BK116 := n2_; have HB := n3_; clear n0_ n1_ n2_ n3_; have hHeld : w27.cell? ⟨gb116, 0, none⟩ = some (.int .i64 a1_0) ∧ w27.cell? ⟨gb116, 1, none⟩ = some (.int .i64 a1_1) ∧ w27.cell? ⟨gb116, 2, none⟩ = some (.int .i64 a1_2) ∧ w27.cell? ⟨gb116, 3, none⟩ = some (.int .i64 a1_3) ∧ w27.cell? ⟨gb116, 4, none⟩ = some (.int .i64 a1_4) := hS_; obtain ⟨Ao28, co28, eo28⟩ := Kd.R_slice HO124.out; (first | subst eo28 | (injection eo28 with f1_ f2_ f3_; have f4_ := f1_.symm; have f5_ := f3_.symm; clear f1_ f2_ f3_; subst f4_; subst f5_))
     obtain ⟨Ao29, co29, eo29⟩ := Kd.R_slice HO127.out; (first | subst eo29 | (injection eo29 with f1_ f2_ f3_; have f4_ := f1_.symm; have f5_ := f3_.symm; clear f1_ f2_ f3_; subst f4_; subst f5_))
     refine norm_ (a' := ?_) ?_ ?_; rotate_left; (simp only [putAll, Act.put, sqA, sqB, sqC]; rfl); refine one_ (i := 5) (N := some 37) #[yT,yT,yT,yT,yT,yT,nF,nF] rfl rfl (one_of HT_.out (by kernel_rfl)) (by decide) (fun K hK => ?_); refine goes_ Try.func32 (by kernel_rfl) rfl #[.slice Ao28 t122.length co28, .int .i64 t120, .slice Ao29 y125.length co29] (by rfl) rfl rfl (by (try simp only [List.map_toArray, List.map_cons, List.map_nil]); first | done | rfl | (simp only [List.length_drop, List.length_take]; rfl)) ?_; with_reducible refine (api_Wait_32.calls (fun k_ => some k_ = (.slice Ao28 t122.length co28 : Value).ownBlock) (.slice Ao28 t122.length co28) t122 t120 (fun k_ => some k_ = (.slice Ao29 y125.length co29 : Value).ownBlock) (.slice Ao29 y125.length co29) y125 t128 w _ ?side1 ?side2 ?side3 ?side4 ?side5 A20.out).mono ?_
     (case side1 => repeat (first | (with_reducible first | exact HB.out | apply below_alloc | apply pw_below_drewN | apply below_drew1 | refine below_set ?_ GE116.out) | exact HB.out))
     (case side2 => exact Kd.R_tight rfl HO124.out)
     (case side3 => exact fun k_ e_ => (HO124.out.1 k_ e_.symm).1)
     (case side4 => exact Kd.R_tight rfl HO127.out)
     (case side5 => exact fun k_ e_ => (HO127.out.1 k_ e_.symm).1)
     rintro e w30 ⟨v129, rfl, ho0, hb, hkp⟩; refine ⟨_, rfl, ?_⟩; have n0_ := Aside0.mk (blk_kept (by (with_reducible repeat (first | refine blk_drewN ?_ _ | refine blk_drew ?_ | refine blk_alloc ?_ _)); exact BK116.out) hkp (fun hs_ => Or.elim hs_ (fun e_ => (fun e_ => (Kd.R_away HO124.out (fun _ hk => hk.2)) e_) e_) (fun e_ => (fun e_ => (Kd.R_away HO127.out (fun _ hk => hk.2)) e_) e_))); have n1_ := Aside0.mk (Kd.R_mono (ok' := fun k_ => k_ ≠ gb116) ho0 (fun k_ hk_ => Or.elim hk_ (fun hs_ => Or.elim hs_ (fun hs_ => fun e_ => (Kd.R_away HO124.out (fun _ hk => hk.2)) (by rw [← e_]; exact hs_)) (fun hs_ => fun e_ => (Kd.R_away HO127.out (fun _ hk => hk.2)) (by rw [← e_]; exact hs_))) (fun hn_ => (Kd.freshB (g := gb116) (o := .cells #[.int .i64 a1_0, .int .i64 a1_1, .int .i64 a1_2, .int .i64 a1_3, .int .i64 a1_4] 26 (0, 0)) (by (with_reducible repeat (first | refine blk_drewN ?_ _ | refine blk_drew ?_ | refine blk_alloc ?_ _)); exact BK116.out) k_ hn_)))); have n2_ := Aside0.mk (hb); clear BK116; clear HB; clear HO124; clear HO127; have BK116 := n0_; have HO130 := n1_; have HB := n2_; clear n0_ n1_ n2_; (try clear hb)
     (try clear hkp)
     (try clear ho0)
     refine hK.out _ _ ⟨(blk_cell BK116.out 0).trans rfl, (blk_cell BK116.out 1).trans rfl, (blk_cell BK116.out 2).trans rfl, (blk_cell BK116.out 3).trans rfl, (blk_cell BK116.out 4).trans rfl⟩ (fun hHeld => ?_); clear hK K; refine norm_ (a' := ?_) ?_ ?_; rotate_left
     ·show Act.put _ (some 37) _ = _
      simp only [Act.put, sqA, sqB, sqC, i64_w, i32_w]; rfl
     refine pure_ (i := 6) (N := some 4) (v := ?_) (a' := ?_) #[yT,yT,yT,yT,yT,yT,yT,nF] rfl rfl (any_of HT_.out (by kernel_rfl)) (fun _ _ _ h => h) (Or.inl ⟨by rfl, ?_⟩) ?_ ?_; rotate_left; (intro w'; go_simp; with_reducible rfl); rotate_left; (simp only [Act.put, sqA, sqB, sqC, i64_w, i32_w]; rfl); refine pure_ (i := 7) (N := some 5) (v := ?_) (a' := ?_) #[yT,yT,yT,yT,yT,yT,yT,yT] rfl rfl (any_of HT_.out (by kernel_rfl)) (fun _ _ _ h => h) (Or.inl ⟨by rfl, ?_⟩) ?_ ?_; rotate_left; (intro w'; go_simp; with_reducible rfl); rotate_left; (simp only [Act.put, sqA, sqB, sqC, i64_w, i32_w]; rfl); refine done_ (done_of HT_.out (by kernel_rfl)) ?_
     try go_wp2
     go_ret2
     exact ⟨_, by first | rfl | (simp [errW_none, errW_some] <;> rfl) | (simp [*, errW_none, errW_some] <;> rfl), by (with_reducible repeat (first | apply Kd.R_alloc | apply Kd.R_drewN | apply Kd.R_drew)); exact Kd.R_mono HO130.out (fun _ hk => trivial), by repeat (first | (with_reducible first | exact HB.out | apply below_alloc | apply pw_below_drewN | apply below_drew1 | refine below_set ?_ GE116.out) | exact HB.out)⟩
 ·rw [if_neg c4] at H; have c4b0 : (t117 == 0) = false := beq_eq_false_iff_ne.mpr c4; have c4b1 : (t117 != 0) = true := bne_iff_ne.mpr c4; simp only [Option.some.injEq, Prod.mk.injEq] at H; obtain ⟨rfl, rfl⟩ := H; go_enter Try.func12, Try.ntmps12; go_wp2_with (first | ((with_reducible refine gate_dst (N := 3) rfl ?_); refine box_event ?hg (N := 3) ?hd (cs := #[.int .i64 a1_0, .int .i64 a1_1, .int .i64 a1_2, .int .i64 a1_3, .int .i64 a1_4]) (t := 26) ?hr ?_; (case hd => rfl); (case hg => rfl); (case hr => first | (go_simp; done) | (go_simp; rfl)); intro gb116 hg w31 hbox hb; have n0_ := Aside0.mk (below_step (by repeat (first | (with_reducible first | exact HB.out | apply below_alloc | apply pw_below_drewN | apply below_drew1) | exact HB.out)) hb); have n1_ := Aside0.mk (hbox); have n2_ := Aside0.mk ((by rw [hg]; exact (below_size (by repeat (first | (with_reducible first | exact HB.out | apply below_alloc | apply pw_below_drewN | apply below_drew1) | exact HB.out))) : w.heap.size ≤ gb116)); have n3_ := Aside0.mk ((by rw [hg]; exact (below_size (by repeat (first | (with_reducible first | exact HB.out | apply below_alloc | apply pw_below_drewN | apply below_drew1) | exact HB.out))) : w.heap.size ≤ gb116)); clear HB; have HB := n0_; have BK116 := n1_; have GW116 := n2_; have GE116 := n3_; clear n0_ n1_ n2_ n3_; clear hb hbox hg) | ((with_reducible refine gate_callee (f := 17) rfl ?_); refine goesL_ (some 10) rfl rfl Try.func17 (by kernel_rfl) rfl #[.slice A0 l0.length c0] rfl (by (try simp only [List.map_toArray, List.map_cons, List.map_nil]); first | done | rfl | (simp only [List.length_drop, List.length_take]; rfl)) ?_; (with_reducible refine (waiting_Check.calls _ _ l0 t117 _ ?side1 ?side2 A3.out).mono ?_); (case side1 => repeat (first | exact (Kd.C_below HR0.out HB.out) | (with_reducible refine Kd.C_alloc ?_ _) | (with_reducible refine Kd.C_drewN ?_ _) | (with_reducible refine Kd.C_drew ?_))); (case side2 => exact HC0.out); rintro e w32 ⟨rfl, hb⟩; refine ⟨_, rfl, ?_⟩; have n0_ := Aside0.mk (blk_below (g := gb116) (o := .cells #[.int .i64 a1_0, .int .i64 a1_1, .int .i64 a1_2, .int .i64 a1_3, .int .i64 a1_4] 26 (0, 0)) (by (with_reducible repeat (first | refine blk_drewN ?_ _ | refine blk_drew ?_ | refine blk_alloc ?_ _)); exact BK116.out) hb); have n1_ := Aside0.mk (below_step (by repeat (first | (with_reducible first | exact HB.out | apply below_alloc | apply pw_below_drewN | apply below_drew1 | refine below_set ?_ GE116.out) | exact HB.out)) hb); clear BK116; clear HB; have BK116 := n0_; have HB := n1_; clear n0_ n1_; (try clear hb); (try clear hb2); (try clear hk); (try clear hi)))
  go_ret2
  exact ⟨_, by first | rfl | (simp [errW_none, errW_some] <;> rfl) | (simp [*, errW_none, errW_some] <;> rfl), by first | exact Kd.R_nil _ _ _ _ _ | exact Kd.N_nil _ _ _ _ _ | exact Kd.V_nil _ _ _ _ _ | exact Kd.Q_nil _ _ _ _ _ | exact Kd.S_nil _ _ _ _ _, by repeat (first | (with_reducible first | exact HB.out | apply below_alloc | apply pw_below_drewN | apply below_drew1 | refine below_set ?_ GE116.out) | exact HB.out)⟩
end Go.Proofs.Ytjffojmpfdoodaa.X
-- written by wip/xprint.py out of the translation (the kit's printer, driven)
namespace Go.Proofs.Ytjffojmpfdoodaa.X
open Go.RowKit Go.Proofs.YtjffojmpfdoodaaW.PrintWords Go.Proofs.YtjffojmpfdoodaaW.PrintLast Go.Proofs.YtjffojmpfdoodaaW.PrintMore
attribute [local go_sem] cell_twice max2_int min2_int max_two min_two max_three min_three max_four min_four   -- for this text's walks alone
set_option linter.unusedVariables false
set_option linter.unusedSimpArgs false

/-! ### api_Wait_34: function 34 -/
--import Derived.Test.YtjffojmpfdoodaaDel
def api_Wait_34.f (l0 : List (S26)) (a1 : Int) (a2 : Int) : Option (List (S26)) := if 0 ≤ a1 ∧ a1 < l0.length ∧ a2 = a1 + 1 then some (l0.take a1.toNat ++ l0.drop (a1.toNat + 1)) else none
theorem api_Wait_34.calls (P0_ : Nat → Prop) (u9000_ : Value) (l0 : List (S26)) (a1 : Int) (a2 : Int) (r : List (S26)) (w0 w : World) (hB : Below w0.heap.size w0 w) (ho0 : Kd.R k26 26 w w0.heap.size P0_ u9000_ l0) (h : api_Wait_34.f l0 a1 a2 = some r) :
    Calls Try.prog 34 #[u9000_, .int .i64 a1, .int .i64 a2] w fun e w' => ∃ v0_ : Value, e = .returned v0_ ∧ Kd.R k26 26 w' w0.heap.size (fun k_ => (P0_ k_ ∨ w.heap.size ≤ k_)) v0_ r ∧ Below w0.heap.size w0 w' ∧ Kept w w' (fun k_ => P0_ k_) := by
 unfold api_Wait_34.f at h
 by_cases hb : 0 ≤ a1 ∧ a1 < l0.length ∧ a2 = a1 + 1
 ·rw [if_pos hb] at h; obtain rfl := Option.some.inj h; obtain ⟨h0, h1, rfl⟩ := hb; obtain ⟨i, rfl⟩ := Int.eq_ofNat_of_zero_le h0; rw [Int.toNat_natCast]; have hi : i < l0.length := by omega
  obtain ⟨A, c, rfl⟩ := Kd.R_slice ho0; have hf0 := flat_of_R ho0; refine (Del.del w w0.heap.size l0.length c i A (l0.flatMap enc26) hi hf0 (Flat.flat_one enc26_one l0)).mono ?_; rintro e w' ⟨v', rfl, hown, hgr, hat⟩; have hlen : (l0.take i ++ l0.drop (i + 1)).length = l0.length - 1 := by simp only [List.length_append, List.length_take, List.length_drop]; omega
  have hflat : (l0.flatMap enc26).take (i * 5) ++ (l0.flatMap enc26).drop ((i + 1) * 5) = (l0.take i ++ l0.drop (i + 1)).flatMap enc26 := by
   rw [Flat.flat_take enc26_len, Flat.flat_drop enc26_len, List.flatMap_append]
  rw [hflat, ← hlen] at hown; have hS : ∀ k, (Value.slice A l0.length c).ownBlock = some k → P0_ k := ho0.1; refine ⟨v', rfl, R_of_flat hown (fun k hk => .inl (hS k (by rw [← hat]; exact hk))), hB.trans (Blk.below_of_grown hgr hB.size (fun k hk => own_base hf0 k hk)), ?_⟩; exact ⟨hgr.size, fun k hk hn => hgr.block k hk (fun he => hn (hS k he.symm))⟩
 (rw [if_neg hb] at h; cases h)
end Go.Proofs.Ytjffojmpfdoodaa.X
-- written by wip/xprint.py out of the translation (the kit's printer, driven)
namespace Go.Proofs.Ytjffojmpfdoodaa.X
open Go.RowKit Go.Proofs.YtjffojmpfdoodaaW.PrintWords Go.Proofs.YtjffojmpfdoodaaW.PrintLast Go.Proofs.YtjffojmpfdoodaaW.PrintMore
attribute [local go_sem] cell_twice max2_int min2_int max_two min_two max_three min_three max_four min_four   -- for this text's walks alone
set_option linter.unusedVariables false
set_option linter.unusedSimpArgs false

/-! ### waiting_Leave: function 19 -/
def waiting_Leave.f (l0 : List (S26)) (a1 : Int) (a2_0 : Int) (a2_1 : Int) : Option ((List (S26)) × Int) := (waiting_Check.f l0).bind fun t150 => (if t150 = 0 then ((waiting_find.f l0 a1 a2_0 a2_1).bind fun t151 => (if t151 < 0 then (some (([] : List (S26)), 260)) else ((api_Wait_33.f l0).bind fun t152 => ((api_Wait_34.f t152 t151 (wrap64 (t151 + 1))).bind fun t155 => (some (t155, 0)))))) else (some (([] : List (S26)), t150)))
set_option maxHeartbeats 8000000 in
set_option maxRecDepth 100000 in
theorem waiting_Leave.calls (A0 : Option Addr) (c0 : Nat) (l0 : List (S26)) (a1 : Int) (a2_0 : Int) (a2_1 : Int) (r1 : List (S26)) (r2 : Int) (w : World) (hr0 : Kd.C k26 w A0 l0.length l0) (hc0 : l0.length ≤ c0) (h : waiting_Leave.f l0 a1 a2_0 a2_1 = some (r1, r2)) :
    Calls Try.prog 19 #[.slice A0 l0.length c0, .int .i64 a1, .agg #[.int .i64 a2_0, .int .i64 a2_1]] w fun e w' => ∃ v0_ : Value, e = .returned (.tuple #[v0_, .int .i64 r2]) ∧ Kd.R k26 26 w' w.heap.size (fun _ => True) v0_ r1 ∧ Below w.heap.size w w' := by
 have hu24 := Try.underlying24; have HR0 := Aside0.mk hr0; have HC0 := Aside0.mk hc0; clear hr0 hc0; have HB := Aside0.mk (Below.refl w.heap.size w); have H : ((waiting_Check.f l0).bind fun t150 => (if t150 = 0 then ((waiting_find.f l0 a1 a2_0 a2_1).bind fun t151 => (if t151 < 0 then (some (([] : List (S26)), 260)) else ((api_Wait_33.f l0).bind fun t152 => ((api_Wait_34.f t152 t151 (wrap64 (t151 + 1))).bind fun t155 => (some (t155, 0)))))) else (some (([] : List (S26)), t150)))) = some (r1, r2) := h; clear h; replace H := Option.bind_eq_some_iff.mp H; obtain ⟨t150, A40, H⟩ := H; replace H : (if t150 = 0 then ((waiting_find.f l0 a1 a2_0 a2_1).bind fun t151 => (if t151 < 0 then (some (([] : List (S26)), 260)) else ((api_Wait_33.f l0).bind fun t152 => ((api_Wait_34.f t152 t151 (wrap64 (t151 + 1))).bind fun t155 => (some (t155, 0)))))) else (some (([] : List (S26)), t150))) = some (r1, r2) := H; have A4 := Aside0.mk A40; clear A40; by_cases c5 : t150 = 0
 ·rw [if_pos c5] at H; have c5b0 : (t150 == 0) = true := beq_iff_eq.mpr c5; have c5b1 : (t150 != 0) = false := bne_eq_false_iff_eq.mpr c5; clear c5; replace H := Option.bind_eq_some_iff.mp H; obtain ⟨t151, A60, H⟩ := H; replace H : (if t151 < 0 then (some (([] : List (S26)), 260)) else ((api_Wait_33.f l0).bind fun t152 => ((api_Wait_34.f t152 t151 (wrap64 (t151 + 1))).bind fun t155 => (some (t155, 0))))) = some (r1, r2) := H; have A6 := Aside0.mk A60; clear A60; by_cases c7 : t151 < 0
  ·rw [if_pos c7] at H; have c7b0 : decide (t151 < 0) = true := decide_eq_true c7; clear c7; simp only [Option.some.injEq, Prod.mk.injEq] at H; obtain ⟨rfl, rfl⟩ := H; go_enter Try.func19, Try.ntmps19; go_wp2_with (first | ((with_reducible refine gate_dst (N := 5) rfl ?_); refine box_event ?hg (N := 5) ?hd (cs := #[.int .i64 a2_0, .int .i64 a2_1]) (t := 24) ?hr ?_; (case hd => rfl); (case hg => rfl); (case hr => first | (go_simp; done) | (go_simp; rfl)); intro gb149 hg w8 hbox hb; have n0_ := Aside0.mk (below_step (by repeat (first | (with_reducible first | exact HB.out | apply below_alloc | apply pw_below_drewN | apply below_drew1) | exact HB.out)) hb); have n1_ := Aside0.mk (hbox); have n2_ := Aside0.mk ((by rw [hg]; exact (below_size (by repeat (first | (with_reducible first | exact HB.out | apply below_alloc | apply pw_below_drewN | apply below_drew1) | exact HB.out))) : w.heap.size ≤ gb149)); have n3_ := Aside0.mk ((by rw [hg]; exact (below_size (by repeat (first | (with_reducible first | exact HB.out | apply below_alloc | apply pw_below_drewN | apply below_drew1) | exact HB.out))) : w.heap.size ≤ gb149)); clear HB; have HB := n0_; have BK149 := n1_; have GW149 := n2_; have GE149 := n3_; clear n0_ n1_ n2_ n3_; clear hb hbox hg) | ((with_reducible refine gate_callee (f := 17) rfl ?_); refine goesL_ (some 11) rfl rfl Try.func17 (by kernel_rfl) rfl #[.slice A0 l0.length c0] rfl (by (try simp only [List.map_toArray, List.map_cons, List.map_nil]); first | done | rfl | (simp only [List.length_drop, List.length_take]; rfl)) ?_; (with_reducible refine (waiting_Check.calls _ _ l0 t150 _ ?side1 ?side2 A4.out).mono ?_); (case side1 => repeat (first | exact (Kd.C_below HR0.out HB.out) | (with_reducible refine Kd.C_alloc ?_ _) | (with_reducible refine Kd.C_drewN ?_ _) | (with_reducible refine Kd.C_drew ?_))); (case side2 => exact HC0.out); rintro e w9 ⟨rfl, hb⟩; refine ⟨_, rfl, ?_⟩; have n0_ := Aside0.mk (blk_below (g := gb149) (o := .cells #[.int .i64 a2_0, .int .i64 a2_1] 24 (0, 0)) (by (with_reducible repeat (first | refine blk_drewN ?_ _ | refine blk_drew ?_ | refine blk_alloc ?_ _)); exact BK149.out) hb); have n1_ := Aside0.mk (below_step (by repeat (first | (with_reducible first | exact HB.out | apply below_alloc | apply pw_below_drewN | apply below_drew1 | refine below_set ?_ GE149.out) | exact HB.out)) hb); clear BK149; clear HB; have BK149 := n0_; have HB := n1_; clear n0_ n1_; (try clear hb); (try clear hb2); (try clear hk); (try clear hi); have hcz10_0 : w9.cell? ⟨gb149, 0, none⟩ = some (.int .i64 a2_0) := (blk_cell BK149.out 0).trans rfl; have hcz10_1 : w9.cell? ⟨gb149, 1, none⟩ = some (.int .i64 a2_1) := (blk_cell BK149.out 1).trans rfl; have hfz10_0 := blk_frozen BK149.out 0; have hfz10_1 := blk_frozen BK149.out 1) | ((with_reducible refine gate_callee (f := 29) rfl ?_); refine goesL_ (some 18) rfl rfl Try.func29 (by kernel_rfl) rfl #[.slice A0 l0.length c0, .int .i64 a1, .agg #[.int .i64 a2_0, .int .i64 a2_1]] rfl (by (try simp only [List.map_toArray, List.map_cons, List.map_nil]); first | done | rfl | (simp only [List.length_drop, List.length_take]; rfl)) ?_; (with_reducible refine (waiting_find.calls _ _ l0 a1 a2_0 a2_1 t151 _ ?side1 ?side2 A6.out).mono ?_); (case side1 => repeat (first | exact (Kd.C_below HR0.out HB.out) | (with_reducible refine Kd.C_alloc ?_ _) | (with_reducible refine Kd.C_drewN ?_ _) | (with_reducible refine Kd.C_drew ?_))); (case side2 => exact HC0.out); rintro e w11 ⟨rfl, hb⟩; refine ⟨_, rfl, ?_⟩; have n0_ := Aside0.mk (blk_below (g := gb149) (o := .cells #[.int .i64 a2_0, .int .i64 a2_1] 24 (0, 0)) (by (with_reducible repeat (first | refine blk_drewN ?_ _ | refine blk_drew ?_ | refine blk_alloc ?_ _)); exact BK149.out) hb); have n1_ := Aside0.mk (below_step (by repeat (first | (with_reducible first | exact HB.out | apply below_alloc | apply pw_below_drewN | apply below_drew1 | refine below_set ?_ GE149.out) | exact HB.out)) hb); clear BK149; clear HB; have BK149 := n0_; have HB := n1_; clear n0_ n1_; (try clear hb); (try clear hb2); (try clear hk); (try clear hi)))
   go_ret2
   exact ⟨_, by first | rfl | (simp [errW_none, errW_some] <;> rfl) | (simp [*, errW_none, errW_some] <;> rfl), by first | exact Kd.R_nil _ _ _ _ _ | exact Kd.N_nil _ _ _ _ _ | exact Kd.V_nil _ _ _ _ _ | exact Kd.Q_nil _ _ _ _ _ | exact Kd.S_nil _ _ _ _ _, by repeat (first | (with_reducible first | exact HB.out | apply below_alloc | apply pw_below_drewN | apply below_drew1 | refine below_set ?_ GE149.out) | exact HB.out)⟩
  ·rw [if_neg c7] at H; have c7b0 : decide (t151 < 0) = false := decide_eq_false c7; clear c7; replace H := Option.bind_eq_some_iff.mp H; obtain ⟨t152, A120, H⟩ := H; replace H : ((api_Wait_34.f t152 t151 (wrap64 (t151 + 1))).bind fun t155 => (some (t155, 0))) = some (r1, r2) := H; have A12 := Aside0.mk A120; clear A120; replace H := Option.bind_eq_some_iff.mp H; obtain ⟨t155, A130, H⟩ := H; replace H : (some (t155, 0)) = some (r1, r2) := H; have A13 := Aside0.mk A130; clear A130; simp only [Option.some.injEq, Prod.mk.injEq] at H; obtain ⟨rfl, rfl⟩ := H; go_enter Try.func19, Try.ntmps19; go_wp2_with (first | ((with_reducible refine gate_dst (N := 5) rfl ?_); refine box_event ?hg (N := 5) ?hd (cs := #[.int .i64 a2_0, .int .i64 a2_1]) (t := 24) ?hr ?_; (case hd => rfl); (case hg => rfl); (case hr => first | (go_simp; done) | (go_simp; rfl)); intro gb149 hg w14 hbox hb; have n0_ := Aside0.mk (below_step (by repeat (first | (with_reducible first | exact HB.out | apply below_alloc | apply pw_below_drewN | apply below_drew1) | exact HB.out)) hb); have n1_ := Aside0.mk (hbox); have n2_ := Aside0.mk ((by rw [hg]; exact (below_size (by repeat (first | (with_reducible first | exact HB.out | apply below_alloc | apply pw_below_drewN | apply below_drew1) | exact HB.out))) : w.heap.size ≤ gb149)); have n3_ := Aside0.mk ((by rw [hg]; exact (below_size (by repeat (first | (with_reducible first | exact HB.out | apply below_alloc | apply pw_below_drewN | apply below_drew1) | exact HB.out))) : w.heap.size ≤ gb149)); clear HB; have HB := n0_; have BK149 := n1_; have GW149 := n2_; have GE149 := n3_; clear n0_ n1_ n2_ n3_; clear hb hbox hg) | ((with_reducible refine gate_callee (f := 17) rfl ?_); refine goesL_ (some 11) rfl rfl Try.func17 (by kernel_rfl) rfl #[.slice A0 l0.length c0] rfl (by (try simp only [List.map_toArray, List.map_cons, List.map_nil]); first | done | rfl | (simp only [List.length_drop, List.length_take]; rfl)) ?_; (with_reducible refine (waiting_Check.calls _ _ l0 t150 _ ?side1 ?side2 A4.out).mono ?_); (case side1 => repeat (first | exact (Kd.C_below HR0.out HB.out) | (with_reducible refine Kd.C_alloc ?_ _) | (with_reducible refine Kd.C_drewN ?_ _) | (with_reducible refine Kd.C_drew ?_))); (case side2 => exact HC0.out); rintro e w15 ⟨rfl, hb⟩; refine ⟨_, rfl, ?_⟩; have n0_ := Aside0.mk (blk_below (g := gb149) (o := .cells #[.int .i64 a2_0, .int .i64 a2_1] 24 (0, 0)) (by (with_reducible repeat (first | refine blk_drewN ?_ _ | refine blk_drew ?_ | refine blk_alloc ?_ _)); exact BK149.out) hb); have n1_ := Aside0.mk (below_step (by repeat (first | (with_reducible first | exact HB.out | apply below_alloc | apply pw_below_drewN | apply below_drew1 | refine below_set ?_ GE149.out) | exact HB.out)) hb); clear BK149; clear HB; have BK149 := n0_; have HB := n1_; clear n0_ n1_; (try clear hb); (try clear hb2); (try clear hk); (try clear hi); have hcz16_0 : w15.cell? ⟨gb149, 0, none⟩ = some (.int .i64 a2_0) := (blk_cell BK149.out 0).trans rfl; have hcz16_1 : w15.cell? ⟨gb149, 1, none⟩ = some (.int .i64 a2_1) := (blk_cell BK149.out 1).trans rfl; have hfz16_0 := blk_frozen BK149.out 0; have hfz16_1 := blk_frozen BK149.out 1) | ((with_reducible refine gate_callee (f := 29) rfl ?_); refine goesL_ (some 18) rfl rfl Try.func29 (by kernel_rfl) rfl #[.slice A0 l0.length c0, .int .i64 a1, .agg #[.int .i64 a2_0, .int .i64 a2_1]] rfl (by (try simp only [List.map_toArray, List.map_cons, List.map_nil]); first | done | rfl | (simp only [List.length_drop, List.length_take]; rfl)) ?_; (with_reducible refine (waiting_find.calls _ _ l0 a1 a2_0 a2_1 t151 _ ?side1 ?side2 A6.out).mono ?_); (case side1 => repeat (first | exact (Kd.C_below HR0.out HB.out) | (with_reducible refine Kd.C_alloc ?_ _) | (with_reducible refine Kd.C_drewN ?_ _) | (with_reducible refine Kd.C_drew ?_))); (case side2 => exact HC0.out); rintro e w17 ⟨rfl, hb⟩; refine ⟨_, rfl, ?_⟩; have n0_ := Aside0.mk (blk_below (g := gb149) (o := .cells #[.int .i64 a2_0, .int .i64 a2_1] 24 (0, 0)) (by (with_reducible repeat (first | refine blk_drewN ?_ _ | refine blk_drew ?_ | refine blk_alloc ?_ _)); exact BK149.out) hb); have n1_ := Aside0.mk (below_step (by repeat (first | (with_reducible first | exact HB.out | apply below_alloc | apply pw_below_drewN | apply below_drew1 | refine below_set ?_ GE149.out) | exact HB.out)) hb); clear BK149; clear HB; have BK149 := n0_; have HB := n1_; clear n0_ n1_; (try clear hb); (try clear hb2); (try clear hk); (try clear hi)) | ((with_reducible refine gate_callee (f := 33) rfl ?_); refine goesL_ (some 22) rfl rfl Try.func33 (by kernel_rfl) rfl #[.slice A0 l0.length c0] rfl (by (try simp only [List.map_toArray, List.map_cons, List.map_nil]); first | done | rfl | (simp only [List.length_drop, List.length_take]; rfl)) ?_; (with_reducible refine (api_Wait_33.calls _ _ l0 t152 _ ?side1 ?side2 A12.out).mono ?_); (case side1 => repeat (first | exact (Kd.C_below HR0.out HB.out) | (with_reducible refine Kd.C_alloc ?_ _) | (with_reducible refine Kd.C_drewN ?_ _) | (with_reducible refine Kd.C_drew ?_))); (case side2 => exact HC0.out); rintro e w18 ⟨v153, rfl, ho0, hb⟩; refine ⟨_, rfl, ?_⟩; have n0_ := Aside0.mk (Kd.R_lower ho0 (below_size (by repeat (first | (with_reducible first | exact HB.out | apply below_alloc | apply pw_below_drewN | apply below_drew1 | refine below_set ?_ GE149.out) | exact HB.out)))); have n1_ := Aside0.mk (blk_below (g := gb149) (o := .cells #[.int .i64 a2_0, .int .i64 a2_1] 24 (0, 0)) (by (with_reducible repeat (first | refine blk_drewN ?_ _ | refine blk_drew ?_ | refine blk_alloc ?_ _)); exact BK149.out) hb); have n2_ := Aside0.mk (below_step (by repeat (first | (with_reducible first | exact HB.out | apply below_alloc | apply pw_below_drewN | apply below_drew1 | refine below_set ?_ GE149.out) | exact HB.out)) hb); clear BK149; clear HB; have HO154 := n0_; have BK149 := n1_; have HB := n2_; clear n0_ n1_ n2_; (try clear hb); (try clear hb2); (try clear hk); (try clear hi); (try clear ho0); obtain ⟨Ao19, co19, eo19⟩ := Kd.R_slice HO154.out; subst eo19) | ((with_reducible refine gate_callee (f := 34) rfl ?_); refine goesL_ (some 26) rfl rfl Try.func34 (by kernel_rfl) rfl #[.slice Ao19 t152.length co19, .int .i64 t151, .int .i64 (wrap64 (t151 + 1))] rfl (by (try simp only [List.map_toArray, List.map_cons, List.map_nil]); first | done | rfl | (simp only [List.length_drop, List.length_take]; rfl)) ?_; (with_reducible refine (api_Wait_34.calls (fun k_ => some k_ = (.slice Ao19 t152.length co19 : Value).ownBlock) (.slice Ao19 t152.length co19) t152 t151 (wrap64 (t151 + 1)) t155 w _ ?side1 ?side2 A13.out).mono ?_); (case side1 => repeat (first | (with_reducible first | exact HB.out | apply below_alloc | apply pw_below_drewN | apply below_drew1 | refine below_set ?_ GE149.out) | exact HB.out)); (case side2 => exact Kd.R_tight rfl HO154.out); rintro e w20 ⟨v156, rfl, ho0, hb, hkp⟩; refine ⟨_, rfl, ?_⟩; have n0_ := Aside0.mk (blk_kept (by (with_reducible repeat (first | refine blk_drewN ?_ _ | refine blk_drew ?_ | refine blk_alloc ?_ _)); exact BK149.out) hkp (fun hs_ => (fun e_ => (Kd.R_ne HO154.out BK149.out (by decide)) e_) hs_)); have n1_ := Aside0.mk (Kd.R_mono (ok' := fun k_ => True) ho0 (fun k_ hk_ => trivial)); have n2_ := Aside0.mk (hb); clear BK149; clear HB; clear HO154; have BK149 := n0_; have HO157 := n1_; have HB := n2_; clear n0_ n1_ n2_; (try clear hb); (try clear hkp); (try clear ho0)))
   go_ret2
   exact ⟨_, by first | rfl | (simp [errW_none, errW_some] <;> rfl) | (simp [*, errW_none, errW_some] <;> rfl), by (with_reducible repeat (first | apply Kd.R_alloc | apply Kd.R_drewN | apply Kd.R_drew)); exact HO157.out, by repeat (first | (with_reducible first | exact HB.out | apply below_alloc | apply pw_below_drewN | apply below_drew1 | refine below_set ?_ GE149.out) | exact HB.out)⟩
 ·rw [if_neg c5] at H; have c5b0 : (t150 == 0) = false := beq_eq_false_iff_ne.mpr c5; have c5b1 : (t150 != 0) = true := bne_iff_ne.mpr c5; simp only [Option.some.injEq, Prod.mk.injEq] at H; obtain ⟨rfl, rfl⟩ := H; go_enter Try.func19, Try.ntmps19; go_wp2_with (first | ((with_reducible refine gate_dst (N := 5) rfl ?_); refine box_event ?hg (N := 5) ?hd (cs := #[.int .i64 a2_0, .int .i64 a2_1]) (t := 24) ?hr ?_; (case hd => rfl); (case hg => rfl); (case hr => first | (go_simp; done) | (go_simp; rfl)); intro gb149 hg w21 hbox hb; have n0_ := Aside0.mk (below_step (by repeat (first | (with_reducible first | exact HB.out | apply below_alloc | apply pw_below_drewN | apply below_drew1) | exact HB.out)) hb); have n1_ := Aside0.mk (hbox); have n2_ := Aside0.mk ((by rw [hg]; exact (below_size (by repeat (first | (with_reducible first | exact HB.out | apply below_alloc | apply pw_below_drewN | apply below_drew1) | exact HB.out))) : w.heap.size ≤ gb149)); have n3_ := Aside0.mk ((by rw [hg]; exact (below_size (by repeat (first | (with_reducible first | exact HB.out | apply below_alloc | apply pw_below_drewN | apply below_drew1) | exact HB.out))) : w.heap.size ≤ gb149)); clear HB; have HB := n0_; have BK149 := n1_; have GW149 := n2_; have GE149 := n3_; clear n0_ n1_ n2_ n3_; clear hb hbox hg) | ((with_reducible refine gate_callee (f := 17) rfl ?_); refine goesL_ (some 11) rfl rfl Try.func17 (by kernel_rfl) rfl #[.slice A0 l0.length c0] rfl (by (try simp only [List.map_toArray, List.map_cons, List.map_nil]); first | done | rfl | (simp only [List.length_drop, List.length_take]; rfl)) ?_; (with_reducible refine (waiting_Check.calls _ _ l0 t150 _ ?side1 ?side2 A4.out).mono ?_); (case side1 => repeat (first | exact (Kd.C_below HR0.out HB.out) | (with_reducible refine Kd.C_alloc ?_ _) | (with_reducible refine Kd.C_drewN ?_ _) | (with_reducible refine Kd.C_drew ?_))); (case side2 => exact HC0.out); rintro e w22 ⟨rfl, hb⟩; refine ⟨_, rfl, ?_⟩; have n0_ := Aside0.mk (blk_below (g := gb149) (o := .cells #[.int .i64 a2_0, .int .i64 a2_1] 24 (0, 0)) (by (with_reducible repeat (first | refine blk_drewN ?_ _ | refine blk_drew ?_ | refine blk_alloc ?_ _)); exact BK149.out) hb); have n1_ := Aside0.mk (below_step (by repeat (first | (with_reducible first | exact HB.out | apply below_alloc | apply pw_below_drewN | apply below_drew1 | refine below_set ?_ GE149.out) | exact HB.out)) hb); clear BK149; clear HB; have BK149 := n0_; have HB := n1_; clear n0_ n1_; (try clear hb); (try clear hb2); (try clear hk); (try clear hi)))
  go_ret2
  exact ⟨_, by first | rfl | (simp [errW_none, errW_some] <;> rfl) | (simp [*, errW_none, errW_some] <;> rfl), by first | exact Kd.R_nil _ _ _ _ _ | exact Kd.N_nil _ _ _ _ _ | exact Kd.V_nil _ _ _ _ _ | exact Kd.Q_nil _ _ _ _ _ | exact Kd.S_nil _ _ _ _ _, by repeat (first | (with_reducible first | exact HB.out | apply below_alloc | apply pw_below_drewN | apply below_drew1 | refine below_set ?_ GE149.out) | exact HB.out)⟩
end Go.Proofs.Ytjffojmpfdoodaa.X
-- written by wip/xprint.py out of the translation (the kit's printer, driven)
namespace Go.Proofs.Ytjffojmpfdoodaa.X
open Go.RowKit Go.Proofs.YtjffojmpfdoodaaW.PrintWords Go.Proofs.YtjffojmpfdoodaaW.PrintLast Go.Proofs.YtjffojmpfdoodaaW.PrintMore
attribute [local go_sem] cell_twice max2_int min2_int max_two min_two max_three min_three max_four min_four   -- for this text's walks alone
set_option linter.unusedVariables false
set_option linter.unusedSimpArgs false

theorem eqA26 (d : Nat) (w : World) (x0 y0 : Int) (x1 y1 : Int) (x2 y2 : Int) (x3 y3 : Int) (x4 y4 : Int) :
    (Op.equalIn (d + 3) 26 (.agg #[.int .i64 x0, .int .i64 x1, .int .i64 x2, .int .i64 x3, .int .i64 x4]) (.agg #[.int .i64 y0, .int .i64 y1, .int .i64 y2, .int .i64 y3, .int .i64 y4])).run Try.prog w = .ok (x0 == y0 && ((x1 == y1 && (x2 == y2)) && (x3 == y3 && (x4 == y4)))) w := by
 refine eqA_of Try.underlying26 (by kernel_rfl) ?_; refine eqf_cons (by rfl) (by go_simp; rfl) (by go_simp; rfl) (by go_simp) ?_; refine eqf_cons (by rfl) (by go_simp) (by go_simp) (eqA24 (d + 0) w _ _ _ _) ?_; refine eqf_cons (by rfl) (by go_simp; rfl) (by go_simp; rfl) (by go_simp) ?_; exact eqf_last (by rfl) (by go_simp; rfl) (by go_simp; rfl) (by go_simp)
end Go.Proofs.Ytjffojmpfdoodaa.X
-- written by wip/xprint.py out of the translation (the kit's printer, driven)
namespace Go.Proofs.Ytjffojmpfdoodaa.X
open Go.RowKit Go.Proofs.YtjffojmpfdoodaaW.PrintWords Go.Proofs.YtjffojmpfdoodaaW.PrintLast Go.Proofs.YtjffojmpfdoodaaW.PrintMore
attribute [local go_sem] cell_twice max2_int min2_int max_two min_two max_three min_three max_four min_four   -- for this text's walks alone
set_option linter.unusedVariables false
set_option linter.unusedSimpArgs false

attribute [local go_sem high] eqA26
/-! ### sizarref26_Same: function 22 -/
def sizarref26_Same.l0 : Nat → List (S26) → List (S26) → Int → Option (Bool)
  | 0, _, _, _ => none
  | k + 1, x0, x1, x5 => if x5 < (x0.length : Int) then (if 0 ≤ x5 then (if x5 < (x1.length : Int) then (if (!(((rd_T26 x0 x5).f0) == ((rd_T26 x1 x5).f0)) || ((!(((rd_T26 x0 x5).f1.f0) == ((rd_T26 x1 x5).f1.f0)) || (!(((rd_T26 x0 x5).f1.f1) == ((rd_T26 x1 x5).f1.f1)))) || (!(((rd_T26 x0 x5).f2) == ((rd_T26 x1 x5).f2)) || (!(((rd_T26 x0 x5).f3) == ((rd_T26 x1 x5).f3)))))) = true then (some false) else (sizarref26_Same.l0 k x0 x1 (wrap64 (x5 + 1)))) else (none)) else (none)) else (some true)
def sizarref26_Same.f (k : Nat) (l0 : List (S26)) (l1 : List (S26)) : Option (Bool) := if (l0.length : Int) = (l1.length : Int) then (sizarref26_Same.l0 k l0 l1 0) else (some false)
theorem sizarref26_Same.mono_l : ∀ k, (∀ y0 y1 y2, LeO (sizarref26_Same.l0 k y0 y1 y2) (sizarref26_Same.l0 (k + 1) y0 y1 y2))
  | 0 => fun _ _ _ r h => by simp [sizarref26_Same.l0] at h
  | k + 1 => by
    have ih0 := sizarref26_Same.mono_l k
    · intro y0 y1 y2
      unfold sizarref26_Same.l0
      repeat' first
      | (with_reducible exact ih0 _ _ _)
      | (with_reducible exact LeO.refl _)
      | (with_reducible exact LeO.none _)
      | (with_reducible refine LeO.ite ?_ ?_)
      | (with_reducible refine LeO.bind ?_ (fun _ => ?_))
      | exact ih0 _ _ _
      | exact LeO.none _
      | refine LeO.ite ?_ ?_
      | refine LeO.bind ?_ (fun _ => ?_)
theorem sizarref26_Same.mono : ∀ a0 a1 k, LeO (sizarref26_Same.f k a0 a1) (sizarref26_Same.f (k + 1) a0 a1) := by
 intro a0 a1 k; have ih0 := sizarref26_Same.mono_l k; unfold sizarref26_Same.f
 repeat' first
     | (with_reducible exact ih0 _ _ _)
     | (with_reducible exact LeO.refl _)
     | (with_reducible exact LeO.none _)
     | (with_reducible refine LeO.ite ?_ ?_)
     | (with_reducible refine LeO.bind ?_ (fun _ => ?_))
     | exact ih0 _ _ _
     | exact LeO.none _
     | refine LeO.ite ?_ ?_
     | refine LeO.bind ?_ (fun _ => ?_)
set_option maxHeartbeats 8000000 in
set_option maxRecDepth 100000 in
theorem sizarref26_Same.calls (k : Nat) (A0 : Option Addr) (c0 : Nat) (l0 : List (S26)) (A1 : Option Addr) (c1 : Nat) (l1 : List (S26)) (r : Bool) (w : World) (hr0 : Kd.C k26 w A0 l0.length l0) (hc0 : l0.length ≤ c0) (hr1 : Kd.C k26 w A1 l1.length l1) (hc1 : l1.length ≤ c1) (h : sizarref26_Same.f k l0 l1 = some r) :
    Calls Try.prog 22 #[.slice A0 l0.length c0, .slice A1 l1.length c1] w fun e w' => e = .returned (.bool r) ∧ Drawn0 w w' := by
 have hu26 := Try.underlying26; have HR0 := Aside0.mk hr0; have HC0 := Aside0.mk hc0; clear hr0 hc0; have HR1 := Aside0.mk hr1; have HC1 := Aside0.mk hc1; clear hr1 hc1; have H : (if (l0.length : Int) = (l1.length : Int) then (sizarref26_Same.l0 k l0 l1 0) else (some false)) = some r := h; clear h; by_cases c3 : (l0.length : Int) = (l1.length : Int)
 ·rw [if_pos c3] at H; have c3b0 : ((l0.length : Int) == (l1.length : Int)) = true := beq_iff_eq.mpr c3; have c3b1 : ((l0.length : Int) != (l1.length : Int)) = false := bne_eq_false_iff_eq.mpr c3; have c3b2 : (l0.length == l1.length) = true := by first | simpa using c3 | (simp at c3 ⊢; omega)
  clear c3; have H' := Aside0.mk H; clear H; go_enter Try.func22, Try.ntmps22; go_wp2
  repeat (go_quiet (fail); try go_wp2)
  go_loopg [5] k (fun kq v5 w' => ∃ (x5_1 : Int), v5 = .int .i64 x5_1 ∧ Aside0 (sizarref26_Same.l0 kq l0 l1 x5_1 = some r) ∧ Aside0 (kq ≤ k) ∧ Drawn0 w w')
  case atStart => exact ⟨(0), (by first | rfl | (simp; done) | (simp [*]; done)), H', ⟨Nat.le_refl _⟩, by repeat (first | exact Drawn0.refl _ | apply Drawn0.step)⟩
  case round =>
   clear H'
   try clear c1
   try clear c2
   try clear p2
   try clear c3
   try clear c3b0
   try clear c3b1
   try clear c3b2
   obtain ⟨x5_1, rfl, HA, HK1, ⟨m1, rfl⟩⟩ := hrel; cases gk with
   | zero => exact absurd HA.out (by simp [sizarref26_Same.l0])
   | succ k1 =>
    have H := HA.out; clear HA; simp only [sizarref26_Same.l0] at H; by_cases c4 : x5_1 < (l0.length : Int)
    ·rw [if_pos c4] at H; have c4b0 : decide (x5_1 < (l0.length : Int)) = true := decide_eq_true c4; clear c4; by_cases c5 : 0 ≤ x5_1
     ·rw [if_pos c5] at H; have c5b0 : decide (0 ≤ x5_1) = true := decide_eq_true c5; clear c5; by_cases c6 : x5_1 < (l1.length : Int)
      ·rw [if_pos c6] at H; have c6b0 : decide (x5_1 < (l1.length : Int)) = true := decide_eq_true c6; clear c6; by_cases c7 : (!(((rd_T26 l0 x5_1).f0) == ((rd_T26 l1 x5_1).f0)) || ((!(((rd_T26 l0 x5_1).f1.f0) == ((rd_T26 l1 x5_1).f1.f0)) || (!(((rd_T26 l0 x5_1).f1.f1) == ((rd_T26 l1 x5_1).f1.f1)))) || (!(((rd_T26 l0 x5_1).f2) == ((rd_T26 l1 x5_1).f2)) || (!(((rd_T26 l0 x5_1).f3) == ((rd_T26 l1 x5_1).f3)))))) = true
       ·rw [if_pos c7] at H; have c7b0 : (!(((rd_T26 l0 x5_1).f0) == ((rd_T26 l1 x5_1).f0)) || ((!(((rd_T26 l0 x5_1).f1.f0) == ((rd_T26 l1 x5_1).f1.f0)) || (!(((rd_T26 l0 x5_1).f1.f1) == ((rd_T26 l1 x5_1).f1.f1)))) || (!(((rd_T26 l0 x5_1).f2) == ((rd_T26 l1 x5_1).f2)) || (!(((rd_T26 l0 x5_1).f3) == ((rd_T26 l1 x5_1).f3)))))) = true := c7; clear c7; obtain rfl := Option.some.inj H; have p158 : 0 ≤ (x5_1 : Int) := of_decide_eq_true (by first | (with_reducible assumption) | assumption); have q158 : x5_1 < (l0.length : Int) := of_decide_eq_true (by first | (with_reducible assumption) | assumption); obtain ⟨ad158, e158, hx158_0, hx158_1, hx158_2, hx158_3, hx158_4⟩ := at_T26 HR0.out x5_1 p158 q158; cases e158; replace p158 := eq_true p158; replace q158 := eq_true q158; have p159 : 0 ≤ (x5_1 : Int) := of_decide_eq_true (by first | (with_reducible assumption) | assumption); have q159 : x5_1 < (l1.length : Int) := of_decide_eq_true (by first | (with_reducible assumption) | assumption); obtain ⟨ad159, e159, hx159_0, hx159_1, hx159_2, hx159_3, hx159_4⟩ := at_T26 HR1.out x5_1 p159 q159; cases e159; replace p159 := eq_true p159; replace q159 := eq_true q159; go_wp2
        repeat (go_quiet (fail); try go_wp2)
        go_ret; exact ⟨by first | rfl | (simp; done) | (simp [*]; done), by repeat (first | exact Drawn0.refl _ | apply Drawn0.step)⟩
       ·rw [if_neg c7] at H; have c7b0 : (!(((rd_T26 l0 x5_1).f0) == ((rd_T26 l1 x5_1).f0)) || ((!(((rd_T26 l0 x5_1).f1.f0) == ((rd_T26 l1 x5_1).f1.f0)) || (!(((rd_T26 l0 x5_1).f1.f1) == ((rd_T26 l1 x5_1).f1.f1)))) || (!(((rd_T26 l0 x5_1).f2) == ((rd_T26 l1 x5_1).f2)) || (!(((rd_T26 l0 x5_1).f3) == ((rd_T26 l1 x5_1).f3)))))) = false := by simpa using c7
        clear c7; have H' := Aside0.mk H; clear H; have p158 : 0 ≤ (x5_1 : Int) := of_decide_eq_true (by first | (with_reducible assumption) | assumption); have q158 : x5_1 < (l0.length : Int) := of_decide_eq_true (by first | (with_reducible assumption) | assumption); obtain ⟨ad158, e158, hx158_0, hx158_1, hx158_2, hx158_3, hx158_4⟩ := at_T26 HR0.out x5_1 p158 q158; cases e158; replace p158 := eq_true p158; replace q158 := eq_true q158; have p159 : 0 ≤ (x5_1 : Int) := of_decide_eq_true (by first | (with_reducible assumption) | assumption); have q159 : x5_1 < (l1.length : Int) := of_decide_eq_true (by first | (with_reducible assumption) | assumption); obtain ⟨ad159, e159, hx159_0, hx159_1, hx159_2, hx159_3, hx159_4⟩ := at_T26 HR1.out x5_1 p159 q159; cases e159; replace p159 := eq_true p159; replace q159 := eq_true q159; go_wp2
        repeat (go_quiet (fail); try go_wp2)
        go_roundg k1
        case measure => have := HK1.out; omega
        case rel => exact ⟨(wrap64 (x5_1 + 1)), (by first | rfl | (simp; done) | (simp [*]; done)), H', ⟨by have := HK1.out; omega⟩, by repeat (first | exact Drawn0.refl _ | apply Drawn0.step)⟩
      (rw [if_neg c6] at H; exact absurd H (by simp))
     (rw [if_neg c5] at H; exact absurd H (by simp))
    ·rw [if_neg c4] at H; have c4b0 : decide (x5_1 < (l0.length : Int)) = false := decide_eq_false c4; clear c4; obtain rfl := Option.some.inj H; go_wp2
     repeat (go_quiet (fail); try go_wp2)
     go_ret; exact ⟨by first | rfl | (simp; done) | (simp [*]; done), by repeat (first | exact Drawn0.refl _ | apply Drawn0.step)⟩
 ·rw [if_neg c3] at H; have c3b0 : ((l0.length : Int) == (l1.length : Int)) = false := beq_eq_false_iff_ne.mpr c3; have c3b1 : ((l0.length : Int) != (l1.length : Int)) = true := bne_iff_ne.mpr c3; have c3b2 : (l0.length == l1.length) = false := by first | simpa using c3 | (simp at c3 ⊢; omega)
  obtain rfl := Option.some.inj H; go_enter Try.func22, Try.ntmps22; go_wp2
  repeat (go_quiet (fail); try go_wp2)
  go_ret; exact ⟨by first | rfl | (simp; done) | (simp [*]; done), by repeat (first | exact Drawn0.refl _ | apply Drawn0.step)⟩
end Go.Proofs.Ytjffojmpfdoodaa.X
-- written by wip/xprint.py out of the translation (the kit's printer, driven)
namespace Go.Proofs.Ytjffojmpfdoodaa.X
open Go.RowKit Go.Proofs.YtjffojmpfdoodaaW.PrintWords Go.Proofs.YtjffojmpfdoodaaW.PrintLast Go.Proofs.YtjffojmpfdoodaaW.PrintMore
attribute [local go_sem] cell_twice max2_int min2_int max_two min_two max_three min_three max_four min_four   -- for this text's walks alone
set_option linter.unusedVariables false
set_option linter.unusedSimpArgs false

attribute [local go_sem high] eqA24
/-! ### waiting_Place: function 13 -/
def waiting_Place.l0 : Nat → List (S26) → Int → Int → List (S26) → Int → Int → Int → Int → Option (Int × Bool)
  | 0, _, _, _, _, _, _, _, _ => none
  | k + 1, x0, x6, x8, x17, x18, x19, x132000, x132001 => if x19 < x18 then (if 0 ≤ x19 then (if x19 < (x17.length : Int) then (if (((rd_T26 x17 x19).f1.f0) == x132000 && (((rd_T26 x17 x19).f1.f1) == x132001)) = true then (if 0 ≤ x8 then (if x8 < (x0.length : Int) then ((waiting_compare.f ((rd_T26 x17 x19).f0) ((rd_T26 x17 x19).f1.f0) ((rd_T26 x17 x19).f1.f1) ((rd_T26 x17 x19).f2) ((rd_T26 x17 x19).f3) ((rd_T26 x0 x8).f0) ((rd_T26 x0 x8).f1.f0) ((rd_T26 x0 x8).f1.f1) ((rd_T26 x0 x8).f2) ((rd_T26 x0 x8).f3)).bind fun t136 => (if t136 < 0 then (waiting_Place.l0 k x0 (wrap64 (x6 + 1)) x8 x17 x18 (wrap64 (x19 + 1)) x132000 x132001) else (waiting_Place.l0 k x0 x6 x8 x17 x18 (wrap64 (x19 + 1)) x132000 x132001))) else (none)) else (none)) else (waiting_Place.l0 k x0 x6 x8 x17 x18 (wrap64 (x19 + 1)) x132000 x132001)) else (none)) else (none)) else (some (x6, true))
def waiting_Place.f (k : Nat) (l0 : List (S26)) (a1 : Int) (a2_0 : Int) (a2_1 : Int) : Option (Int × Bool) := (waiting_find.f l0 a1 a2_0 a2_1).bind fun t132 => (if t132 < 0 then (some (0, false)) else (waiting_Place.l0 k l0 1 t132 l0 (l0.length : Int) 0 a2_0 a2_1))
theorem waiting_Place.mono_l : ∀ k, (∀ y0 y1 y2 y3 y4 y5 y6 y7, LeO (waiting_Place.l0 k y0 y1 y2 y3 y4 y5 y6 y7) (waiting_Place.l0 (k + 1) y0 y1 y2 y3 y4 y5 y6 y7))
  | 0 => fun _ _ _ _ _ _ _ _ r h => by simp [waiting_Place.l0] at h
  | k + 1 => by
    have ih0 := waiting_Place.mono_l k
    · intro y0 y1 y2 y3 y4 y5 y6 y7
      unfold waiting_Place.l0
      repeat' first
      | (with_reducible exact ih0 _ _ _ _ _ _ _ _)
      | (with_reducible exact LeO.refl _)
      | (with_reducible exact LeO.none _)
      | (with_reducible refine LeO.ite ?_ ?_)
      | (with_reducible refine LeO.bind ?_ (fun _ => ?_))
      | exact ih0 _ _ _ _ _ _ _ _
      | exact LeO.none _
      | refine LeO.ite ?_ ?_
      | refine LeO.bind ?_ (fun _ => ?_)
theorem waiting_Place.mono : ∀ a0 a1 a2 a3 k, LeO (waiting_Place.f k a0 a1 a2 a3) (waiting_Place.f (k + 1) a0 a1 a2 a3) := by
 intro a0 a1 a2 a3 k; have ih0 := waiting_Place.mono_l k; unfold waiting_Place.f
 repeat' first
     | (with_reducible exact ih0 _ _ _ _ _ _ _ _)
     | (with_reducible exact LeO.refl _)
     | (with_reducible exact LeO.none _)
     | (with_reducible refine LeO.ite ?_ ?_)
     | (with_reducible refine LeO.bind ?_ (fun _ => ?_))
     | exact ih0 _ _ _ _ _ _ _ _
     | exact LeO.none _
     | refine LeO.ite ?_ ?_
     | refine LeO.bind ?_ (fun _ => ?_)
def waiting_Place.T8 : Bool × List (List Nat × List Nat) := (true, [([], []), ([0], [0]), ([], []), ([1, 2], [1, 2]), ([3], [3]), ([4], [4]), ([4], [4]), ([4], [4]), ([6, 7, 4], [4, 6, 7]), ([8, 4], [4, 8]), ([5, 9, 4, 4], [4, 5, 9]), ([10, 4], [4, 10]), ([4, 11], [4, 11])])
def waiting_Place.B8 : List Nat := [0, 1, 0, 7, 15, 31, 31, 31, 223, 479, 1023, 2047, 4095]
theorem waiting_Place.tab8 : rtab .any (opsOf Try.f13 8) = waiting_Place.T8 := by kernel_rfl
theorem waiting_Place.bits8 : waitsOk waiting_Place.T8.2 waiting_Place.B8 = true := by kernel_rfl
set_option maxHeartbeats 8000000 in
set_option maxRecDepth 100000 in
theorem waiting_Place.calls (k : Nat) (A0 : Option Addr) (c0 : Nat) (l0 : List (S26)) (a1 : Int) (a2_0 : Int) (a2_1 : Int) (r1 : Int) (r2 : Bool) (w : World) (hr0 : Kd.C k26 w A0 l0.length l0) (hc0 : l0.length ≤ c0) (h : waiting_Place.f k l0 a1 a2_0 a2_1 = some (r1, r2)) :
    Calls Try.prog 13 #[.slice A0 l0.length c0, .int .i64 a1, .agg #[.int .i64 a2_0, .int .i64 a2_1]] w fun e w' => e = .returned (.tuple #[.int .i64 r1, .bool r2]) ∧ Below w.heap.size w w' := by
 have hu24 := Try.underlying24; have hu26 := Try.underlying26; have HR0 := Aside0.mk hr0; have HC0 := Aside0.mk hc0; clear hr0 hc0; have HB := Aside0.mk (Below.refl w.heap.size w); have H : ((waiting_find.f l0 a1 a2_0 a2_1).bind fun t132 => (if t132 < 0 then (some (0, false)) else (waiting_Place.l0 k l0 1 t132 l0 (l0.length : Int) 0 a2_0 a2_1))) = some (r1, r2) := h; clear h; replace H := Option.bind_eq_some_iff.mp H; obtain ⟨t132, A40, H⟩ := H; replace H : (if t132 < 0 then (some (0, false)) else (waiting_Place.l0 k l0 1 t132 l0 (l0.length : Int) 0 a2_0 a2_1)) = some (r1, r2) := H; have A4 := Aside0.mk A40; clear A40; by_cases c5 : t132 < 0
 ·rw [if_pos c5] at H; have c5b0 : decide (t132 < 0) = true := decide_eq_true c5; clear c5; simp only [Option.some.injEq, Prod.mk.injEq] at H; obtain ⟨rfl, rfl⟩ := H; go_enter Try.func13, Try.ntmps13; go_wp2_with (first | ((with_reducible refine gate_dst (N := 5) rfl ?_); refine box_event ?hg (N := 5) ?hd (cs := #[.int .i64 a2_0, .int .i64 a2_1]) (t := 24) ?hr ?_; (case hd => rfl); (case hg => rfl); (case hr => first | (go_simp; done) | (go_simp; rfl)); intro gb131 hg w6 hbox hb; have n0_ := Aside0.mk (below_step (by repeat (first | (with_reducible first | exact HB.out | apply below_alloc | apply pw_below_drewN | apply below_drew1) | exact HB.out)) hb); have n1_ := Aside0.mk (hbox); have n2_ := Aside0.mk ((by rw [hg]; exact (below_size (by repeat (first | (with_reducible first | exact HB.out | apply below_alloc | apply pw_below_drewN | apply below_drew1) | exact HB.out))) : w.heap.size ≤ gb131)); have n3_ := Aside0.mk ((by rw [hg]; exact (below_size (by repeat (first | (with_reducible first | exact HB.out | apply below_alloc | apply pw_below_drewN | apply below_drew1) | exact HB.out))) : w.heap.size ≤ gb131)); clear HB; have HB := n0_; have BK131 := n1_; have GW131 := n2_; have GE131 := n3_; clear n0_ n1_ n2_ n3_; clear hb hbox hg; have hcz7_0 : w6.cell? ⟨gb131, 0, none⟩ = some (.int .i64 a2_0) := (blk_cell BK131.out 0).trans rfl; have hcz7_1 : w6.cell? ⟨gb131, 1, none⟩ = some (.int .i64 a2_1) := (blk_cell BK131.out 1).trans rfl; have hfz7_0 := blk_frozen BK131.out 0; have hfz7_1 := blk_frozen BK131.out 1) | ((with_reducible refine gate_callee (f := 29) rfl ?_); refine goesL_ (some 14) rfl rfl Try.func29 (by kernel_rfl) rfl #[.slice A0 l0.length c0, .int .i64 a1, .agg #[.int .i64 a2_0, .int .i64 a2_1]] rfl (by (try simp only [List.map_toArray, List.map_cons, List.map_nil]); first | done | rfl | (simp only [List.length_drop, List.length_take]; rfl)) ?_; (with_reducible refine (waiting_find.calls _ _ l0 a1 a2_0 a2_1 t132 _ ?side1 ?side2 A4.out).mono ?_); (case side1 => repeat (first | exact (Kd.C_below HR0.out HB.out) | (with_reducible refine Kd.C_alloc ?_ _) | (with_reducible refine Kd.C_drewN ?_ _) | (with_reducible refine Kd.C_drew ?_))); (case side2 => exact HC0.out); rintro e w8 ⟨rfl, hb⟩; refine ⟨_, rfl, ?_⟩; have n0_ := Aside0.mk (blk_below (g := gb131) (o := .cells #[.int .i64 a2_0, .int .i64 a2_1] 24 (0, 0)) (by (with_reducible repeat (first | refine blk_drewN ?_ _ | refine blk_drew ?_ | refine blk_alloc ?_ _)); exact BK131.out) hb); have n1_ := Aside0.mk (below_step (by repeat (first | (with_reducible first | exact HB.out | apply below_alloc | apply pw_below_drewN | apply below_drew1 | refine below_set ?_ GE131.out) | exact HB.out)) hb); clear BK131; clear HB; have BK131 := n0_; have HB := n1_; clear n0_ n1_; (try clear hb); (try clear hb2); (try clear hk); (try clear hi)))
  go_ret2
  exact ⟨by first | rfl | (simp [errW_none, errW_some] <;> rfl) | (simp [*, errW_none, errW_some] <;> rfl), by repeat (first | (with_reducible first | exact HB.out | apply below_alloc | apply pw_below_drewN | apply below_drew1 | refine below_set ?_ GE131.out) | exact HB.out)⟩
 ·rw [if_neg c5] at H; have c5b0 : decide (t132 < 0) = false := decide_eq_false c5; clear c5; have H' := Aside0.mk H; clear H; go_enter Try.func13, Try.ntmps13; go_wp2_with (first | ((with_reducible refine gate_dst (N := 5) rfl ?_); refine box_event ?hg (N := 5) ?hd (cs := #[.int .i64 a2_0, .int .i64 a2_1]) (t := 24) ?hr ?_; (case hd => rfl); (case hg => rfl); (case hr => first | (go_simp; done) | (go_simp; rfl)); intro gb131 hg w9 hbox hb; have n0_ := Aside0.mk (below_step (by repeat (first | (with_reducible first | exact HB.out | apply below_alloc | apply pw_below_drewN | apply below_drew1) | exact HB.out)) hb); have n1_ := Aside0.mk (hbox); have n2_ := Aside0.mk ((by rw [hg]; exact (below_size (by repeat (first | (with_reducible first | exact HB.out | apply below_alloc | apply pw_below_drewN | apply below_drew1) | exact HB.out))) : w.heap.size ≤ gb131)); have n3_ := Aside0.mk ((by rw [hg]; exact (below_size (by repeat (first | (with_reducible first | exact HB.out | apply below_alloc | apply pw_below_drewN | apply below_drew1) | exact HB.out))) : w.heap.size ≤ gb131)); clear HB; have HB := n0_; have BK131 := n1_; have GW131 := n2_; have GE131 := n3_; clear n0_ n1_ n2_ n3_; clear hb hbox hg; have hcz10_0 : w9.cell? ⟨gb131, 0, none⟩ = some (.int .i64 a2_0) := (blk_cell BK131.out 0).trans rfl; have hcz10_1 : w9.cell? ⟨gb131, 1, none⟩ = some (.int .i64 a2_1) := (blk_cell BK131.out 1).trans rfl; have hfz10_0 := blk_frozen BK131.out 0; have hfz10_1 := blk_frozen BK131.out 1) | ((with_reducible refine gate_callee (f := 29) rfl ?_); refine goesL_ (some 14) rfl rfl Try.func29 (by kernel_rfl) rfl #[.slice A0 l0.length c0, .int .i64 a1, .agg #[.int .i64 a2_0, .int .i64 a2_1]] rfl (by (try simp only [List.map_toArray, List.map_cons, List.map_nil]); first | done | rfl | (simp only [List.length_drop, List.length_take]; rfl)) ?_; (with_reducible refine (waiting_find.calls _ _ l0 a1 a2_0 a2_1 t132 _ ?side1 ?side2 A4.out).mono ?_); (case side1 => repeat (first | exact (Kd.C_below HR0.out HB.out) | (with_reducible refine Kd.C_alloc ?_ _) | (with_reducible refine Kd.C_drewN ?_ _) | (with_reducible refine Kd.C_drew ?_))); (case side2 => exact HC0.out); rintro e w11 ⟨rfl, hb⟩; refine ⟨_, rfl, ?_⟩; have n0_ := Aside0.mk (blk_below (g := gb131) (o := .cells #[.int .i64 a2_0, .int .i64 a2_1] 24 (0, 0)) (by (with_reducible repeat (first | refine blk_drewN ?_ _ | refine blk_drew ?_ | refine blk_alloc ?_ _)); exact BK131.out) hb); have n1_ := Aside0.mk (below_step (by repeat (first | (with_reducible first | exact HB.out | apply below_alloc | apply pw_below_drewN | apply below_drew1 | refine below_set ?_ GE131.out) | exact HB.out)) hb); clear BK131; clear HB; have BK131 := n0_; have HB := n1_; clear n0_ n1_; (try clear hb); (try clear hb2); (try clear hk); (try clear hi)))
  go_loopg [6, 19] k (fun kq v6 v19 w' => ∃ (x6_1 : Int) (x19_1 : Int), v6 = .int .i64 x6_1 ∧ v19 = .int .i64 x19_1 ∧ Aside0 (waiting_Place.l0 kq l0 x6_1 t132 l0 (l0.length : Int) x19_1 a2_0 a2_1 = some (r1, r2)) ∧ Aside0 (kq ≤ k) ∧ Aside0 (w'.heap[gb131]? = some (.cells #[.int .i64 a2_0, .int .i64 a2_1] 24 (0, 0))) ∧ Aside0 (Below w.heap.size w w'))
  case atStart => exact ⟨(1), (0), (by first | rfl | (simp; done) | (simp [*]; done)), (by first | rfl | (simp; done) | (simp [*]; done)), H', ⟨Nat.le_refl _⟩, ⟨by (with_reducible repeat (first | refine blk_drewN ?_ _ | refine blk_drew ?_ | refine blk_alloc ?_ _)); exact BK131.out⟩, ⟨by repeat (first | (with_reducible first | exact HB.out | apply below_alloc | apply pw_below_drewN | apply below_drew1 | refine below_set ?_ GE131.out) | exact HB.out)⟩⟩
  case round =>
   clear H'
   try clear c1
   try clear c2
   try clear p2
   try clear c5
   try clear c5b0
   try clear hcz10_0
   try clear hcz10_1
   try clear hcz7_0
   try clear hcz7_1
   try clear hfz10_0
   try clear hfz10_1
   try clear hfz7_0
   try clear hfz7_1
   obtain ⟨x6_1, x19_1, rfl, rfl, HA, HK1, BK131, HB⟩ := hrel; cases gk with
   | zero => exact absurd HA.out (by simp [waiting_Place.l0])
   | succ k1 =>
    have H := HA.out; clear HA; simp only [waiting_Place.l0] at H; by_cases c12 : x19_1 < (l0.length : Int)
    ·rw [if_pos c12] at H; have c12b0 : decide (x19_1 < (l0.length : Int)) = true := decide_eq_true c12; clear c12; by_cases c13 : 0 ≤ x19_1
     ·rw [if_pos c13] at H; have c13b0 : decide (0 ≤ x19_1) = true := decide_eq_true c13; clear c13; by_cases c14 : x19_1 < (l0.length : Int)
      ·rw [if_pos c14] at H; have c14b0 : decide (x19_1 < (l0.length : Int)) = true := decide_eq_true c14; clear c14; by_cases c15 : (((rd_T26 l0 x19_1).f1.f0) == a2_0 && (((rd_T26 l0 x19_1).f1.f1) == a2_1)) = true
       ·rw [if_pos c15] at H; have c15b0 : (((rd_T26 l0 x19_1).f1.f0) == a2_0 && (((rd_T26 l0 x19_1).f1.f1) == a2_1)) = true := c15; (try (have c15b1 : decide (((rd_T26 l0 x19_1).f1.f0) = a2_0 && (((rd_T26 l0 x19_1).f1.f1) == a2_1)) = true := by simpa using c15))
        (try (have c15b2 : (((rd_T26 l0 x19_1).f1.f0) == a2_0 && (((rd_T26 l0 x19_1).f1.f1) == a2_1)) = true := by simpa using c15))
        clear c15; by_cases c16 : 0 ≤ t132
        ·rw [if_pos c16] at H; have c16b0 : decide (0 ≤ t132) = true := decide_eq_true c16; clear c16; by_cases c17 : t132 < (l0.length : Int)
         ·rw [if_pos c17] at H; have c17b0 : decide (t132 < (l0.length : Int)) = true := decide_eq_true c17; clear c17; replace H := Option.bind_eq_some_iff.mp H; obtain ⟨t136, A180, H⟩ := H; replace H : (if t136 < 0 then (waiting_Place.l0 k1 l0 (wrap64 (x6_1 + 1)) t132 l0 (l0.length : Int) (wrap64 (x19_1 + 1)) a2_0 a2_1) else (waiting_Place.l0 k1 l0 x6_1 t132 l0 (l0.length : Int) (wrap64 (x19_1 + 1)) a2_0 a2_1)) = some (r1, r2) := H; have A18 := Aside0.mk A180; clear A180; by_cases c19 : t136 < 0
          ·rw [if_pos c19] at H; have c19b0 : decide (t136 < 0) = true := decide_eq_true c19; clear c19; have H' := Aside0.mk H; clear H; have p133 : 0 ≤ (x19_1 : Int) := of_decide_eq_true (by first | (with_reducible assumption) | assumption); have q133 : x19_1 < (l0.length : Int) := of_decide_eq_true (by first | (with_reducible assumption) | assumption); obtain ⟨ad133, e133, hx133_0, hx133_1, hx133_2, hx133_3, hx133_4⟩ := at_T26 HR0.out x19_1 p133 q133; cases e133; replace hx133_0 := (HB.out.cell (World.block_lt_of_cell? w _ hx133_0)).trans hx133_0; replace hx133_1 := (HB.out.cell (World.block_lt_of_cell? w _ hx133_1)).trans hx133_1; replace hx133_2 := (HB.out.cell (World.block_lt_of_cell? w _ hx133_2)).trans hx133_2; replace hx133_3 := (HB.out.cell (World.block_lt_of_cell? w _ hx133_3)).trans hx133_3; replace hx133_4 := (HB.out.cell (World.block_lt_of_cell? w _ hx133_4)).trans hx133_4; replace p133 := eq_true p133; replace q133 := eq_true q133
           try go_wp2_with (first | ((with_reducible refine gate_dst (N := 10) rfl ?_); refine box_event ?hg (N := 10) ?hd (cs := #[.int .i64 0, .int .i64 0, .int .i64 0, .int .i64 0, .int .i64 0]) (t := 26) ?hr ?_; (case hd => rfl); (case hg => rfl); (case hr => first | (go_simp; done) | (go_simp; rfl)); intro gb134 hg w20 hbox hb; have n0_ := Aside0.mk (blk_below (g := gb131) (o := .cells #[.int .i64 a2_0, .int .i64 a2_1] 24 (0, 0)) (by (with_reducible repeat (first | refine blk_drewN ?_ _ | refine blk_drew ?_ | refine blk_alloc ?_ _)); exact BK131.out) hb); have n1_ := Aside0.mk (below_step (by repeat (first | (with_reducible first | exact HB.out | apply below_alloc | apply pw_below_drewN | apply below_drew1 | refine below_set ?_ GE131.out) | exact HB.out)) hb); have n2_ := Aside0.mk (hbox); have n3_ := Aside0.mk ((by rw [hg]; exact (below_size (by repeat (first | (with_reducible first | exact HB.out | apply below_alloc | apply pw_below_drewN | apply below_drew1 | refine below_set ?_ GE131.out) | exact HB.out))) : w.heap.size ≤ gb134)); have n4_ := Aside0.mk ((by rw [hg]; exact (below_size (by repeat (first | (with_reducible first | exact HB.out | apply below_alloc | apply pw_below_drewN | apply below_drew1 | refine below_set ?_ GE131.out) | exact HB.out))) : w.heap.size ≤ gb134)); have n5_ := Aside0.mk ((by rw [hg]; exact Nat.ne_of_lt (blk_lt (g := gb131) (o := .cells #[.int .i64 a2_0, .int .i64 a2_1] 24 (0, 0)) (by (with_reducible repeat (first | refine blk_drewN ?_ _ | refine blk_drew ?_ | refine blk_alloc ?_ _)); exact BK131.out)) : gb131 ≠ gb134)); have n6_ := Aside0.mk ((by rw [hg]; exact Nat.ne_of_gt (blk_lt (g := gb131) (o := .cells #[.int .i64 a2_0, .int .i64 a2_1] 24 (0, 0)) (by (with_reducible repeat (first | refine blk_drewN ?_ _ | refine blk_drew ?_ | refine blk_alloc ?_ _)); exact BK131.out)) : gb134 ≠ gb131)); clear BK131; clear HB; have BK131 := n0_; have HB := n1_; have BK134 := n2_; have GW134 := n3_; have GE134 := n4_; have NB131_134 := n5_; have NB134_131 := n6_; clear n0_ n1_ n2_ n3_ n4_ n5_ n6_; clear hb hbox hg; have hnb21 := NB134_131.out; have hnc21 := NB131_134.out; have hcz22_0 : w20.cell? ⟨gb134, 0, none⟩ = some (.int .i64 0) := (blk_cell BK134.out 0).trans rfl; have hcz22_1 : w20.cell? ⟨gb134, 1, none⟩ = some (.int .i64 0) := (blk_cell BK134.out 1).trans rfl; have hcz22_2 : w20.cell? ⟨gb134, 2, none⟩ = some (.int .i64 0) := (blk_cell BK134.out 2).trans rfl; have hcz22_3 : w20.cell? ⟨gb134, 3, none⟩ = some (.int .i64 0) := (blk_cell BK134.out 3).trans rfl; have hcz22_4 : w20.cell? ⟨gb134, 4, none⟩ = some (.int .i64 0) := (blk_cell BK134.out 4).trans rfl; have hfz22_0 := blk_frozen BK134.out 0; have hfz22_1 := blk_frozen BK134.out 1; have hfz22_2 := blk_frozen BK134.out 2; have hfz22_3 := blk_frozen BK134.out 3; have hfz22_4 := blk_frozen BK134.out 4))
           have n0_ : Aside0 ((((((w20.setCell ⟨gb134, 0, none⟩ (.int .i64 ((rd_T26 l0 x19_1).f0))).setCell ⟨gb134, 1, none⟩ (.int .i64 ((rd_T26 l0 x19_1).f1.f0))).setCell ⟨gb134, 2, none⟩ (.int .i64 ((rd_T26 l0 x19_1).f1.f1))).setCell ⟨gb134, 3, none⟩ (.int .i64 ((rd_T26 l0 x19_1).f2))).setCell ⟨gb134, 4, none⟩ (.int .i64 ((rd_T26 l0 x19_1).f3))).heap[gb131]? = some (.cells #[.int .i64 a2_0, .int .i64 a2_1] 24 (0, 0))) := ⟨by (with_reducible repeat (first | refine blk_drewN ?_ _ | refine blk_drew ?_ | refine blk_alloc ?_ _)); refine blk_far ?_ NB131_134.out _; (with_reducible repeat (first | refine blk_drewN ?_ _ | refine blk_drew ?_ | refine blk_alloc ?_ _)); refine blk_far ?_ NB131_134.out _; (with_reducible repeat (first | refine blk_drewN ?_ _ | refine blk_drew ?_ | refine blk_alloc ?_ _)); refine blk_far ?_ NB131_134.out _; (with_reducible repeat (first | refine blk_drewN ?_ _ | refine blk_drew ?_ | refine blk_alloc ?_ _)); refine blk_far ?_ NB131_134.out _; (with_reducible repeat (first | refine blk_drewN ?_ _ | refine blk_drew ?_ | refine blk_alloc ?_ _)); refine blk_far ?_ NB131_134.out _; (with_reducible repeat (first | refine blk_drewN ?_ _ | refine blk_drew ?_ | refine blk_alloc ?_ _)); exact BK131.out⟩
           have n1_ : Aside0 ((((((w20.setCell ⟨gb134, 0, none⟩ (.int .i64 ((rd_T26 l0 x19_1).f0))).setCell ⟨gb134, 1, none⟩ (.int .i64 ((rd_T26 l0 x19_1).f1.f0))).setCell ⟨gb134, 2, none⟩ (.int .i64 ((rd_T26 l0 x19_1).f1.f1))).setCell ⟨gb134, 3, none⟩ (.int .i64 ((rd_T26 l0 x19_1).f2))).setCell ⟨gb134, 4, none⟩ (.int .i64 ((rd_T26 l0 x19_1).f3))).heap[gb134]? = some (.cells #[.int .i64 ((rd_T26 l0 x19_1).f0), .int .i64 ((rd_T26 l0 x19_1).f1.f0), .int .i64 ((rd_T26 l0 x19_1).f1.f1), .int .i64 ((rd_T26 l0 x19_1).f2), .int .i64 ((rd_T26 l0 x19_1).f3)] 26 (0, 0))) := ⟨by (with_reducible repeat (first | refine blk_drewN ?_ _ | refine blk_drew ?_ | refine blk_alloc ?_ _)); refine blk_put (cs := #[.int .i64 ((rd_T26 l0 x19_1).f0), .int .i64 ((rd_T26 l0 x19_1).f1.f0), .int .i64 ((rd_T26 l0 x19_1).f1.f1), .int .i64 ((rd_T26 l0 x19_1).f2), .int .i64 0]) ?_ 4 _ rfl; (with_reducible repeat (first | refine blk_drewN ?_ _ | refine blk_drew ?_ | refine blk_alloc ?_ _)); refine blk_put (cs := #[.int .i64 ((rd_T26 l0 x19_1).f0), .int .i64 ((rd_T26 l0 x19_1).f1.f0), .int .i64 ((rd_T26 l0 x19_1).f1.f1), .int .i64 0, .int .i64 0]) ?_ 3 _ rfl; (with_reducible repeat (first | refine blk_drewN ?_ _ | refine blk_drew ?_ | refine blk_alloc ?_ _)); refine blk_put (cs := #[.int .i64 ((rd_T26 l0 x19_1).f0), .int .i64 ((rd_T26 l0 x19_1).f1.f0), .int .i64 0, .int .i64 0, .int .i64 0]) ?_ 2 _ rfl; (with_reducible repeat (first | refine blk_drewN ?_ _ | refine blk_drew ?_ | refine blk_alloc ?_ _)); refine blk_put (cs := #[.int .i64 ((rd_T26 l0 x19_1).f0), .int .i64 0, .int .i64 0, .int .i64 0, .int .i64 0]) ?_ 1 _ rfl; (with_reducible repeat (first | refine blk_drewN ?_ _ | refine blk_drew ?_ | refine blk_alloc ?_ _)); refine blk_put (cs := #[.int .i64 0, .int .i64 0, .int .i64 0, .int .i64 0, .int .i64 0]) ?_ 0 _ rfl; (with_reducible repeat (first | refine blk_drewN ?_ _ | refine blk_drew ?_ | refine blk_alloc ?_ _)); exact BK134.out⟩
           have n2_ : Aside0 (Below w.heap.size w (((((w20.setCell ⟨gb134, 0, none⟩ (.int .i64 ((rd_T26 l0 x19_1).f0))).setCell ⟨gb134, 1, none⟩ (.int .i64 ((rd_T26 l0 x19_1).f1.f0))).setCell ⟨gb134, 2, none⟩ (.int .i64 ((rd_T26 l0 x19_1).f1.f1))).setCell ⟨gb134, 3, none⟩ (.int .i64 ((rd_T26 l0 x19_1).f2))).setCell ⟨gb134, 4, none⟩ (.int .i64 ((rd_T26 l0 x19_1).f3)))) := ⟨by repeat (first | (with_reducible first | exact HB.out | apply below_alloc | apply pw_below_drewN | apply below_drew1 | refine below_set ?_ GE131.out | refine below_set ?_ GE134.out) | exact HB.out)⟩
           (try clear BK131)
           (try clear BK134)
           (try clear HB)
           generalize (((((w20.setCell ⟨gb134, 0, none⟩ (.int .i64 ((rd_T26 l0 x19_1).f0))).setCell ⟨gb134, 1, none⟩ (.int .i64 ((rd_T26 l0 x19_1).f1.f0))).setCell ⟨gb134, 2, none⟩ (.int .i64 ((rd_T26 l0 x19_1).f1.f1))).setCell ⟨gb134, 3, none⟩ (.int .i64 ((rd_T26 l0 x19_1).f2))).setCell ⟨gb134, 4, none⟩ (.int .i64 ((rd_T26 l0 x19_1).f3))) = w23 at n0_ n1_ n2_ ⊢; have BK131 := n0_; have BK134 := n1_; have HB := n2_; clear n0_ n1_ n2_; have n0_ := Aside0.mk (blk_drew BK131.out); have n1_ := Aside0.mk (blk_drew BK134.out); have n2_ := Aside0.mk (below_drew1 HB.out); clear BK131; clear BK134; clear HB; have BK131 := n0_; have BK134 := n1_; have HB := n2_; clear n0_ n1_ n2_; have p135 : 0 ≤ (t132 : Int) := of_decide_eq_true (by first | (with_reducible assumption) | assumption); have q135 : t132 < (l0.length : Int) := of_decide_eq_true (by first | (with_reducible assumption) | assumption); obtain ⟨ad135, e135, hx135_0, hx135_1, hx135_2, hx135_3, hx135_4⟩ := at_T26 HR0.out t132 p135 q135; have hw135_4 := hx135_4; have hw135_3 := hx135_3; have hw135_2 := hx135_2; have hw135_1 := hx135_1; have hw135_0 := hx135_0; obtain rfl : ad133 = ad135 := (by injection e135)
           replace hx135_0 := (HB.out.cell (World.block_lt_of_cell? w _ hx135_0)).trans hx135_0; replace hx135_1 := (HB.out.cell (World.block_lt_of_cell? w _ hx135_1)).trans hx135_1; replace hx135_2 := (HB.out.cell (World.block_lt_of_cell? w _ hx135_2)).trans hx135_2; replace hx135_3 := (HB.out.cell (World.block_lt_of_cell? w _ hx135_3)).trans hx135_3; replace hx135_4 := (HB.out.cell (World.block_lt_of_cell? w _ hx135_4)).trans hx135_4; replace p135 := eq_true p135; replace q135 := eq_true q135; refine start_ (n := 13) (S := fun w' => w'.cell? ⟨gb134, 0, none⟩ = some (.int .i64 ((rd_T26 l0 x19_1).f0)) ∧ w'.cell? ⟨gb134, 1, none⟩ = some (.int .i64 ((rd_T26 l0 x19_1).f1.f0)) ∧ w'.cell? ⟨gb134, 2, none⟩ = some (.int .i64 ((rd_T26 l0 x19_1).f1.f1)) ∧ w'.cell? ⟨gb134, 3, none⟩ = some (.int .i64 ((rd_T26 l0 x19_1).f2)) ∧ w'.cell? ⟨gb134, 4, none⟩ = some (.int .i64 ((rd_T26 l0 x19_1).f3)) ∧ w'.cell? ⟨gb131, 0, none⟩ = some (.int .i64 a2_0) ∧ w'.cell? ⟨gb131, 1, none⟩ = some (.int .i64 a2_1) ∧ w'.cell? (ad133.add ((t132).toNat * 5)) = some (.int .i64 ((rd_T26 l0 t132).f0)) ∧ w'.cell? ⟨(ad133.add ((t132).toNat * 5)).block, (ad133.add ((t132).toNat * 5)).off + 1, none⟩ = some (.int .i64 ((rd_T26 l0 t132).f1.f0)) ∧ w'.cell? ⟨(ad133.add ((t132).toNat * 5)).block, (ad133.add ((t132).toNat * 5)).off + 2, none⟩ = some (.int .i64 ((rd_T26 l0 t132).f1.f1)) ∧ w'.cell? ⟨(ad133.add ((t132).toNat * 5)).block, (ad133.add ((t132).toNat * 5)).off + 3, none⟩ = some (.int .i64 ((rd_T26 l0 t132).f2)) ∧ w'.cell? ⟨(ad133.add ((t132).toNat * 5)).block, (ad133.add ((t132).toNat * 5)).off + 4, none⟩ = some (.int .i64 ((rd_T26 l0 t132).f3))) (ds := []) #[nF,nF,nF,nF,nF,nF,nF,nF,nF,nF,nF,nF,nF] (by kernel_rfl) rfl rfl ⟨(blk_cell BK134.out 0).trans rfl, (blk_cell BK134.out 1).trans rfl, (blk_cell BK134.out 2).trans rfl, (blk_cell BK134.out 3).trans rfl, (blk_cell BK134.out 4).trans rfl, (blk_cell BK131.out 0).trans rfl, (blk_cell BK131.out 1).trans rfl, ((HB.out.cell (World.block_lt_of_cell? w _ hw135_0)).trans hw135_0), ((HB.out.cell (World.block_lt_of_cell? w _ hw135_1)).trans hw135_1), ((HB.out.cell (World.block_lt_of_cell? w _ hw135_2)).trans hw135_2), ((HB.out.cell (World.block_lt_of_cell? w _ hw135_3)).trans hw135_3), ((HB.out.cell (World.block_lt_of_cell? w _ hw135_4)).trans hw135_4)⟩ (fun hHeld => ?_); refine with_tabW waiting_Place.tab8 waiting_Place.bits8 (fun HT_ HW_ => ?_); generalize w23.drew = w24 at BK131 BK134 HB hx135_0 hx135_1 hx135_2 hx135_3 hx135_4 hHeld ⊢; refine pure_ (i := 0) (N := some 23) (v := ?_) (a' := ?_) #[yT,nF,nF,nF,nF,nF,nF,nF,nF,nF,nF,nF,nF] rfl rfl (any_of HT_.out (by kernel_rfl)) (fun _ _ _ h => h) (Or.inl ⟨by rfl, ?_⟩) ?_ ?_; rotate_left; (intro w'; go_simp; with_reducible rfl); rotate_left; (simp only [Act.put, sqA, sqB, sqC, i64_w, i32_w]; rfl); refine take_ (i := 1) (N := some 24) (v := ?_) (a' := ?_) #[yT,yT,nF,nF,nF,nF,nF,nF,nF,nF,nF,nF,nF] rfl rfl (take_ofW HT_.out HW_.out (by kernel_rfl)) (fun _ _ _ h => h) (Or.inl ⟨by rfl, ?_⟩) hHeld ?_ ?_; rotate_left; (rintro w' ⟨s0, s1, s2, s3, s4, s5, s6, s7, s8, s9, s10, s11⟩; go_simp; with_reducible rfl); rotate_left; (simp only [Act.put, sqA, sqB, sqC, i64_w, i32_w]; rfl); refine take_ (i := 2) (N := some 25) (v := ?_) (a' := ?_) #[yT,yT,yT,nF,nF,nF,nF,nF,nF,nF,nF,nF,nF] rfl rfl (take_ofW HT_.out HW_.out (by kernel_rfl)) (fun _ _ _ h => h) (Or.inl ⟨by rfl, ?_⟩) hHeld ?_ ?_; rotate_left; (rintro w' ⟨s0, s1, s2, s3, s4, s5, s6, s7, s8, s9, s10, s11⟩; go_simp; with_reducible rfl); rotate_left; (simp only [Act.put, sqA, sqB, sqC, i64_w, i32_w]; rfl); refine pure_ (i := 3) (N := some 26) (v := ?_) (a' := ?_) #[yT,yT,yT,yT,nF,nF,nF,nF,nF,nF,nF,nF,nF] rfl rfl (any_of HT_.out (by kernel_rfl)) (fun _ _ _ h => h) (Or.inl ⟨by rfl, ?_⟩) ?_ ?_; rotate_left; (intro w'; go_simp; with_reducible rfl); rotate_left; (simp only [Act.put, sqA, sqB, sqC, i64_w, i32_w]; rfl); refine pure_ (i := 4) (N := some 27) (v := ?_) (a' := ?_) #[yT,yT,yT,yT,yT,nF,nF,nF,nF,nF,nF,nF,nF] rfl rfl (any_of HT_.out (by kernel_rfl)) (fun _ _ _ h => h) (Or.inl ⟨by rfl, ?_⟩) ?_ ?_; rotate_left; (intro w'; go_simp; with_reducible rfl); rotate_left; (simp only [Act.put, sqA, sqB, sqC, i64_w, i32_w]; rfl); refine pure_ (i := 6) (N := some 29) (v := ?_) (a' := ?_) #[yT,yT,yT,yT,yT,nF,yT,nF,nF,nF,nF,nF,nF] rfl rfl (any_of HT_.out (by kernel_rfl)) (fun _ _ _ h => h) (Or.inl ⟨by rfl, ?_⟩) ?_ ?_; rotate_left; (intro w'; go_simp; with_reducible rfl); rotate_left; (simp only [Act.put, sqA, sqB, sqC, i64_w, i32_w]; rfl); refine pure_ (i := 7) (N := some 30) (v := ?_) (a' := ?_) #[yT,yT,yT,yT,yT,nF,yT,yT,nF,nF,nF,nF,nF] rfl rfl (any_of HT_.out (by kernel_rfl)) (fun _ _ _ h => h) (Or.inl ⟨by rfl, ?_⟩) ?_ ?_; rotate_left; (intro w'; go_simp; with_reducible rfl); rotate_left; (simp only [Act.put, sqA, sqB, sqC, i64_w, i32_w]; rfl); refine pure_ (i := 8) (N := some 31) (v := ?_) (a' := ?_) #[yT,yT,yT,yT,yT,nF,yT,yT,yT,nF,nF,nF,nF] rfl rfl (any_of HT_.out (by kernel_rfl)) (fun _ _ _ h => h) (Or.inl ⟨by rfl, ?_⟩) ?_ ?_; rotate_left; (intro w'; go_simp; with_reducible rfl); rotate_left; (simp only [Act.put, sqA, sqB, sqC, i64_w, i32_w]; rfl); refine take_ (i := 5) (N := some 28) (v := ?_) (a' := ?_) #[yT,yT,yT,yT,yT,yT,yT,yT,yT,nF,nF,nF,nF] rfl rfl (take_ofW HT_.out HW_.out (by kernel_rfl)) (fun _ _ _ h => h) (Or.inl ⟨by rfl, ?_⟩) hHeld ?_ ?_; rotate_left; (rintro w' ⟨s0, s1, s2, s3, s4, s5, s6, s7, s8, s9, s10, s11⟩; go_simp; with_reducible rfl); rotate_left; (simp only [Act.put, sqA, sqB, sqC, i64_w, i32_w]; rfl); refine take_ (i := 9) (N := some 32) (v := ?_) (a' := ?_) #[yT,yT,yT,yT,yT,yT,yT,yT,yT,yT,nF,nF,nF] rfl rfl (take_ofW HT_.out HW_.out (by kernel_rfl)) (fun _ _ _ h => h) (Or.inl ⟨by rfl, ?_⟩) hHeld ?_ ?_; rotate_left; (rintro w' ⟨s0, s1, s2, s3, s4, s5, s6, s7, s8, s9, s10, s11⟩; go_simp; with_reducible rfl); rotate_left; (simp only [Act.put, sqA, sqB, sqC, i64_w, i32_w]; rfl); refine one_ (i := 10) (N := some 33) #[yT,yT,yT,yT,yT,yT,yT,yT,yT,yT,yT,nF,nF] rfl rfl (one_of HT_.out (by kernel_rfl)) (by decide) (fun K hK => ?_); refine goes_ Try.func31 (by kernel_rfl) rfl #[.agg #[.int .i64 ((rd_T26 l0 x19_1).f0), .int .i64 ((rd_T26 l0 x19_1).f1.f0), .int .i64 ((rd_T26 l0 x19_1).f1.f1), .int .i64 ((rd_T26 l0 x19_1).f2), .int .i64 ((rd_T26 l0 x19_1).f3)], .agg #[.int .i64 ((rd_T26 l0 t132).f0), .int .i64 ((rd_T26 l0 t132).f1.f0), .int .i64 ((rd_T26 l0 t132).f1.f1), .int .i64 ((rd_T26 l0 t132).f2), .int .i64 ((rd_T26 l0 t132).f3)]] (by rfl) rfl rfl (by (try simp only [List.map_toArray, List.map_cons, List.map_nil]); first | done | rfl | (simp only [List.length_drop, List.length_take]; rfl)) ?_; with_reducible refine (waiting_compare.calls ((rd_T26 l0 x19_1).f0) ((rd_T26 l0 x19_1).f1.f0) ((rd_T26 l0 x19_1).f1.f1) ((rd_T26 l0 x19_1).f2) ((rd_T26 l0 x19_1).f3) ((rd_T26 l0 t132).f0) ((rd_T26 l0 t132).f1.f0) ((rd_T26 l0 t132).f1.f1) ((rd_T26 l0 t132).f2) ((rd_T26 l0 t132).f3) t136 _ A18.out).mono ?_
           rintro e w25 ⟨rfl, hb⟩; refine ⟨_, rfl, ?_⟩; have n0_ := Aside0.mk (blk_below (g := gb131) (o := .cells #[.int .i64 a2_0, .int .i64 a2_1] 24 (0, 0)) (by (with_reducible repeat (first | refine blk_drewN ?_ _ | refine blk_drew ?_ | refine blk_alloc ?_ _)); exact BK131.out) hb); have n1_ := Aside0.mk (blk_below (g := gb134) (o := .cells #[.int .i64 ((rd_T26 l0 x19_1).f0), .int .i64 ((rd_T26 l0 x19_1).f1.f0), .int .i64 ((rd_T26 l0 x19_1).f1.f1), .int .i64 ((rd_T26 l0 x19_1).f2), .int .i64 ((rd_T26 l0 x19_1).f3)] 26 (0, 0)) (by (with_reducible repeat (first | refine blk_drewN ?_ _ | refine blk_drew ?_ | refine blk_alloc ?_ _)); exact BK134.out) hb); have n2_ := Aside0.mk (below_step (by repeat (first | (with_reducible first | exact HB.out | apply below_alloc | apply pw_below_drewN | apply below_drew1 | refine below_set ?_ GE131.out | refine below_set ?_ GE134.out) | exact HB.out)) hb); clear BK131; clear BK134; clear HB; have BK131 := n0_; have BK134 := n1_; have HB := n2_; clear n0_ n1_ n2_; (try clear hb)
           (try clear hb2)
           (try clear hk)
           (try clear hi)
           refine hK.out _ _ ⟨(blk_cell BK134.out 0).trans rfl, (blk_cell BK134.out 1).trans rfl, (blk_cell BK134.out 2).trans rfl, (blk_cell BK134.out 3).trans rfl, (blk_cell BK134.out 4).trans rfl, (blk_cell BK131.out 0).trans rfl, (blk_cell BK131.out 1).trans rfl, ((HB.out.cell (World.block_lt_of_cell? w _ hw135_0)).trans hw135_0), ((HB.out.cell (World.block_lt_of_cell? w _ hw135_1)).trans hw135_1), ((HB.out.cell (World.block_lt_of_cell? w _ hw135_2)).trans hw135_2), ((HB.out.cell (World.block_lt_of_cell? w _ hw135_3)).trans hw135_3), ((HB.out.cell (World.block_lt_of_cell? w _ hw135_4)).trans hw135_4)⟩ (fun hHeld => ?_); clear hK K; refine norm_ (a' := ?_) ?_ ?_; rotate_left
           ·show Act.put _ (some 33) _ = _
            simp only [Act.put, sqA, sqB, sqC, i64_w, i32_w]; rfl
           refine pure_ (i := 11) (N := some 34) (v := ?_) (a' := ?_) #[yT,yT,yT,yT,yT,yT,yT,yT,yT,yT,yT,yT,nF] rfl rfl (any_of HT_.out (by kernel_rfl)) (fun _ _ _ h => h) (Or.inl ⟨by rfl, ?_⟩) ?_ ?_; rotate_left; (intro w'; go_simp; with_reducible rfl); rotate_left; (simp only [Act.put, sqA, sqB, sqC, i64_w, i32_w]; rfl); refine pure_ (i := 12) (N := some 35) (v := ?_) (a' := ?_) #[yT,yT,yT,yT,yT,yT,yT,yT,yT,yT,yT,yT,yT] rfl rfl (any_of HT_.out (by kernel_rfl)) (fun _ _ _ h => h) (Or.inl ⟨by rfl, ?_⟩) ?_ ?_; rotate_left; (intro w'; go_simp; with_reducible rfl); rotate_left; (simp only [Act.put, sqA, sqB, sqC, i64_w, i32_w]; rfl); refine done_ (done_of HT_.out (by kernel_rfl)) ?_
           try go_wp2
           go_roundg k1
           case measure => have := HK1.out; omega
           case rel => exact ⟨(wrap64 (x6_1 + 1)), (wrap64 (x19_1 + 1)), (by first | rfl | (simp; done) | (simp [*]; done)), (by first | rfl | (simp; done) | (simp [*]; done)), H', ⟨by have := HK1.out; omega⟩, ⟨by (with_reducible repeat (first | refine blk_drewN ?_ _ | refine blk_drew ?_ | refine blk_alloc ?_ _)); exact BK131.out⟩, ⟨by repeat (first | (with_reducible first | exact HB.out | apply below_alloc | apply pw_below_drewN | apply below_drew1 | refine below_set ?_ GE131.out | refine below_set ?_ GE134.out) | exact HB.out)⟩⟩
          ·rw [if_neg c19] at H; have c19b0 : decide (t136 < 0) = false := decide_eq_false c19; clear c19; have H' := Aside0.mk H; clear H; have p133 : 0 ≤ (x19_1 : Int) := of_decide_eq_true (by first | (with_reducible assumption) | assumption); have q133 : x19_1 < (l0.length : Int) := of_decide_eq_true (by first | (with_reducible assumption) | assumption); obtain ⟨ad133, e133, hx133_0, hx133_1, hx133_2, hx133_3, hx133_4⟩ := at_T26 HR0.out x19_1 p133 q133; cases e133; replace hx133_0 := (HB.out.cell (World.block_lt_of_cell? w _ hx133_0)).trans hx133_0; replace hx133_1 := (HB.out.cell (World.block_lt_of_cell? w _ hx133_1)).trans hx133_1; replace hx133_2 := (HB.out.cell (World.block_lt_of_cell? w _ hx133_2)).trans hx133_2; replace hx133_3 := (HB.out.cell (World.block_lt_of_cell? w _ hx133_3)).trans hx133_3; replace hx133_4 := (HB.out.cell (World.block_lt_of_cell? w _ hx133_4)).trans hx133_4; replace p133 := eq_true p133; replace q133 := eq_true q133
           try go_wp2_with (first | ((with_reducible refine gate_dst (N := 10) rfl ?_); refine box_event ?hg (N := 10) ?hd (cs := #[.int .i64 0, .int .i64 0, .int .i64 0, .int .i64 0, .int .i64 0]) (t := 26) ?hr ?_; (case hd => rfl); (case hg => rfl); (case hr => first | (go_simp; done) | (go_simp; rfl)); intro gb134 hg w26 hbox hb; have n0_ := Aside0.mk (blk_below (g := gb131) (o := .cells #[.int .i64 a2_0, .int .i64 a2_1] 24 (0, 0)) (by (with_reducible repeat (first | refine blk_drewN ?_ _ | refine blk_drew ?_ | refine blk_alloc ?_ _)); exact BK131.out) hb); have n1_ := Aside0.mk (below_step (by repeat (first | (with_reducible first | exact HB.out | apply below_alloc | apply pw_below_drewN | apply below_drew1 | refine below_set ?_ GE131.out) | exact HB.out)) hb); have n2_ := Aside0.mk (hbox); have n3_ := Aside0.mk ((by rw [hg]; exact (below_size (by repeat (first | (with_reducible first | exact HB.out | apply below_alloc | apply pw_below_drewN | apply below_drew1 | refine below_set ?_ GE131.out) | exact HB.out))) : w.heap.size ≤ gb134)); have n4_ := Aside0.mk ((by rw [hg]; exact (below_size (by repeat (first | (with_reducible first | exact HB.out | apply below_alloc | apply pw_below_drewN | apply below_drew1 | refine below_set ?_ GE131.out) | exact HB.out))) : w.heap.size ≤ gb134)); have n5_ := Aside0.mk ((by rw [hg]; exact Nat.ne_of_lt (blk_lt (g := gb131) (o := .cells #[.int .i64 a2_0, .int .i64 a2_1] 24 (0, 0)) (by (with_reducible repeat (first | refine blk_drewN ?_ _ | refine blk_drew ?_ | refine blk_alloc ?_ _)); exact BK131.out)) : gb131 ≠ gb134)); have n6_ := Aside0.mk ((by rw [hg]; exact Nat.ne_of_gt (blk_lt (g := gb131) (o := .cells #[.int .i64 a2_0, .int .i64 a2_1] 24 (0, 0)) (by (with_reducible repeat (first | refine blk_drewN ?_ _ | refine blk_drew ?_ | refine blk_alloc ?_ _)); exact BK131.out)) : gb134 ≠ gb131)); clear BK131; clear HB; have BK131 := n0_; have HB := n1_; have BK134 := n2_; have GW134 := n3_; have GE134 := n4_; have NB131_134 := n5_; have NB134_131 := n6_; clear n0_ n1_ n2_ n3_ n4_ n5_ n6_; clear hb hbox hg; have hnb27 := NB134_131.out; have hnc27 := NB131_134.out; have hcz28_0 : w26.cell? ⟨gb134, 0, none⟩ = some (.int .i64 0) := (blk_cell BK134.out 0).trans rfl; have hcz28_1 : w26.cell? ⟨gb134, 1, none⟩ = some (.int .i64 0) := (blk_cell BK134.out 1).trans rfl; have hcz28_2 : w26.cell? ⟨gb134, 2, none⟩ = some (.int .i64 0) := (blk_cell BK134.out 2).trans rfl; have hcz28_3 : w26.cell? ⟨gb134, 3, none⟩ = some (.int .i64 0) := (blk_cell BK134.out 3).trans rfl; have hcz28_4 : w26.cell? ⟨gb134, 4, none⟩ = some (.int .i64 0) := (blk_cell BK134.out 4).trans rfl; have hfz28_0 := blk_frozen BK134.out 0; have hfz28_1 := blk_frozen BK134.out 1; have hfz28_2 := blk_frozen BK134.out 2; have hfz28_3 := blk_frozen BK134.out 3; have hfz28_4 := blk_frozen BK134.out 4))
           have n0_ : Aside0 ((((((w26.setCell ⟨gb134, 0, none⟩ (.int .i64 ((rd_T26 l0 x19_1).f0))).setCell ⟨gb134, 1, none⟩ (.int .i64 ((rd_T26 l0 x19_1).f1.f0))).setCell ⟨gb134, 2, none⟩ (.int .i64 ((rd_T26 l0 x19_1).f1.f1))).setCell ⟨gb134, 3, none⟩ (.int .i64 ((rd_T26 l0 x19_1).f2))).setCell ⟨gb134, 4, none⟩ (.int .i64 ((rd_T26 l0 x19_1).f3))).heap[gb131]? = some (.cells #[.int .i64 a2_0, .int .i64 a2_1] 24 (0, 0))) := ⟨by (with_reducible repeat (first | refine blk_drewN ?_ _ | refine blk_drew ?_ | refine blk_alloc ?_ _)); refine blk_far ?_ NB131_134.out _; (with_reducible repeat (first | refine blk_drewN ?_ _ | refine blk_drew ?_ | refine blk_alloc ?_ _)); refine blk_far ?_ NB131_134.out _; (with_reducible repeat (first | refine blk_drewN ?_ _ | refine blk_drew ?_ | refine blk_alloc ?_ _)); refine blk_far ?_ NB131_134.out _; (with_reducible repeat (first | refine blk_drewN ?_ _ | refine blk_drew ?_ | refine blk_alloc ?_ _)); refine blk_far ?_ NB131_134.out _; (with_reducible repeat (first | refine blk_drewN ?_ _ | refine blk_drew ?_ | refine blk_alloc ?_ _)); refine blk_far ?_ NB131_134.out _; (with_reducible repeat (first | refine blk_drewN ?_ _ | refine blk_drew ?_ | refine blk_alloc ?_ _)); exact BK131.out⟩
           have n1_ : Aside0 ((((((w26.setCell ⟨gb134, 0, none⟩ (.int .i64 ((rd_T26 l0 x19_1).f0))).setCell ⟨gb134, 1, none⟩ (.int .i64 ((rd_T26 l0 x19_1).f1.f0))).setCell ⟨gb134, 2, none⟩ (.int .i64 ((rd_T26 l0 x19_1).f1.f1))).setCell ⟨gb134, 3, none⟩ (.int .i64 ((rd_T26 l0 x19_1).f2))).setCell ⟨gb134, 4, none⟩ (.int .i64 ((rd_T26 l0 x19_1).f3))).heap[gb134]? = some (.cells #[.int .i64 ((rd_T26 l0 x19_1).f0), .int .i64 ((rd_T26 l0 x19_1).f1.f0), .int .i64 ((rd_T26 l0 x19_1).f1.f1), .int .i64 ((rd_T26 l0 x19_1).f2), .int .i64 ((rd_T26 l0 x19_1).f3)] 26 (0, 0))) := ⟨by (with_reducible repeat (first | refine blk_drewN ?_ _ | refine blk_drew ?_ | refine blk_alloc ?_ _)); refine blk_put (cs := #[.int .i64 ((rd_T26 l0 x19_1).f0), .int .i64 ((rd_T26 l0 x19_1).f1.f0), .int .i64 ((rd_T26 l0 x19_1).f1.f1), .int .i64 ((rd_T26 l0 x19_1).f2), .int .i64 0]) ?_ 4 _ rfl; (with_reducible repeat (first | refine blk_drewN ?_ _ | refine blk_drew ?_ | refine blk_alloc ?_ _)); refine blk_put (cs := #[.int .i64 ((rd_T26 l0 x19_1).f0), .int .i64 ((rd_T26 l0 x19_1).f1.f0), .int .i64 ((rd_T26 l0 x19_1).f1.f1), .int .i64 0, .int .i64 0]) ?_ 3 _ rfl; (with_reducible repeat (first | refine blk_drewN ?_ _ | refine blk_drew ?_ | refine blk_alloc ?_ _)); refine blk_put (cs := #[.int .i64 ((rd_T26 l0 x19_1).f0), .int .i64 ((rd_T26 l0 x19_1).f1.f0), .int .i64 0, .int .i64 0, .int .i64 0]) ?_ 2 _ rfl; (with_reducible repeat (first | refine blk_drewN ?_ _ | refine blk_drew ?_ | refine blk_alloc ?_ _)); refine blk_put (cs := #[.int .i64 ((rd_T26 l0 x19_1).f0), .int .i64 0, .int .i64 0, .int .i64 0, .int .i64 0]) ?_ 1 _ rfl; (with_reducible repeat (first | refine blk_drewN ?_ _ | refine blk_drew ?_ | refine blk_alloc ?_ _)); refine blk_put (cs := #[.int .i64 0, .int .i64 0, .int .i64 0, .int .i64 0, .int .i64 0]) ?_ 0 _ rfl; (with_reducible repeat (first | refine blk_drewN ?_ _ | refine blk_drew ?_ | refine blk_alloc ?_ _)); exact BK134.out⟩
           have n2_ : Aside0 (Below w.heap.size w (((((w26.setCell ⟨gb134, 0, none⟩ (.int .i64 ((rd_T26 l0 x19_1).f0))).setCell ⟨gb134, 1, none⟩ (.int .i64 ((rd_T26 l0 x19_1).f1.f0))).setCell ⟨gb134, 2, none⟩ (.int .i64 ((rd_T26 l0 x19_1).f1.f1))).setCell ⟨gb134, 3, none⟩ (.int .i64 ((rd_T26 l0 x19_1).f2))).setCell ⟨gb134, 4, none⟩ (.int .i64 ((rd_T26 l0 x19_1).f3)))) := ⟨by repeat (first | (with_reducible first | exact HB.out | apply below_alloc | apply pw_below_drewN | apply below_drew1 | refine below_set ?_ GE131.out | refine below_set ?_ GE134.out) | exact HB.out)⟩
           (try clear BK131)
           (try clear BK134)
           (try clear HB)
           generalize (((((w26.setCell ⟨gb134, 0, none⟩ (.int .i64 ((rd_T26 l0 x19_1).f0))).setCell ⟨gb134, 1, none⟩ (.int .i64 ((rd_T26 l0 x19_1).f1.f0))).setCell ⟨gb134, 2, none⟩ (.int .i64 ((rd_T26 l0 x19_1).f1.f1))).setCell ⟨gb134, 3, none⟩ (.int .i64 ((rd_T26 l0 x19_1).f2))).setCell ⟨gb134, 4, none⟩ (.int .i64 ((rd_T26 l0 x19_1).f3))) = w29 at n0_ n1_ n2_ ⊢; have BK131 := n0_; have BK134 := n1_; have HB := n2_; clear n0_ n1_ n2_; have n0_ := Aside0.mk (blk_drew BK131.out); have n1_ := Aside0.mk (blk_drew BK134.out); have n2_ := Aside0.mk (below_drew1 HB.out); clear BK131; clear BK134; clear HB; have BK131 := n0_; have BK134 := n1_; have HB := n2_; clear n0_ n1_ n2_; have p135 : 0 ≤ (t132 : Int) := of_decide_eq_true (by first | (with_reducible assumption) | assumption); have q135 : t132 < (l0.length : Int) := of_decide_eq_true (by first | (with_reducible assumption) | assumption); obtain ⟨ad135, e135, hx135_0, hx135_1, hx135_2, hx135_3, hx135_4⟩ := at_T26 HR0.out t132 p135 q135; have hw135_4 := hx135_4; have hw135_3 := hx135_3; have hw135_2 := hx135_2; have hw135_1 := hx135_1; have hw135_0 := hx135_0; obtain rfl : ad133 = ad135 := (by injection e135)
           replace hx135_0 := (HB.out.cell (World.block_lt_of_cell? w _ hx135_0)).trans hx135_0; replace hx135_1 := (HB.out.cell (World.block_lt_of_cell? w _ hx135_1)).trans hx135_1; replace hx135_2 := (HB.out.cell (World.block_lt_of_cell? w _ hx135_2)).trans hx135_2; replace hx135_3 := (HB.out.cell (World.block_lt_of_cell? w _ hx135_3)).trans hx135_3; replace hx135_4 := (HB.out.cell (World.block_lt_of_cell? w _ hx135_4)).trans hx135_4; replace p135 := eq_true p135; replace q135 := eq_true q135; refine start_ (n := 13) (S := fun w' => w'.cell? ⟨gb134, 0, none⟩ = some (.int .i64 ((rd_T26 l0 x19_1).f0)) ∧ w'.cell? ⟨gb134, 1, none⟩ = some (.int .i64 ((rd_T26 l0 x19_1).f1.f0)) ∧ w'.cell? ⟨gb134, 2, none⟩ = some (.int .i64 ((rd_T26 l0 x19_1).f1.f1)) ∧ w'.cell? ⟨gb134, 3, none⟩ = some (.int .i64 ((rd_T26 l0 x19_1).f2)) ∧ w'.cell? ⟨gb134, 4, none⟩ = some (.int .i64 ((rd_T26 l0 x19_1).f3)) ∧ w'.cell? ⟨gb131, 0, none⟩ = some (.int .i64 a2_0) ∧ w'.cell? ⟨gb131, 1, none⟩ = some (.int .i64 a2_1) ∧ w'.cell? (ad133.add ((t132).toNat * 5)) = some (.int .i64 ((rd_T26 l0 t132).f0)) ∧ w'.cell? ⟨(ad133.add ((t132).toNat * 5)).block, (ad133.add ((t132).toNat * 5)).off + 1, none⟩ = some (.int .i64 ((rd_T26 l0 t132).f1.f0)) ∧ w'.cell? ⟨(ad133.add ((t132).toNat * 5)).block, (ad133.add ((t132).toNat * 5)).off + 2, none⟩ = some (.int .i64 ((rd_T26 l0 t132).f1.f1)) ∧ w'.cell? ⟨(ad133.add ((t132).toNat * 5)).block, (ad133.add ((t132).toNat * 5)).off + 3, none⟩ = some (.int .i64 ((rd_T26 l0 t132).f2)) ∧ w'.cell? ⟨(ad133.add ((t132).toNat * 5)).block, (ad133.add ((t132).toNat * 5)).off + 4, none⟩ = some (.int .i64 ((rd_T26 l0 t132).f3))) (ds := []) #[nF,nF,nF,nF,nF,nF,nF,nF,nF,nF,nF,nF,nF] (by kernel_rfl) rfl rfl ⟨(blk_cell BK134.out 0).trans rfl, (blk_cell BK134.out 1).trans rfl, (blk_cell BK134.out 2).trans rfl, (blk_cell BK134.out 3).trans rfl, (blk_cell BK134.out 4).trans rfl, (blk_cell BK131.out 0).trans rfl, (blk_cell BK131.out 1).trans rfl, ((HB.out.cell (World.block_lt_of_cell? w _ hw135_0)).trans hw135_0), ((HB.out.cell (World.block_lt_of_cell? w _ hw135_1)).trans hw135_1), ((HB.out.cell (World.block_lt_of_cell? w _ hw135_2)).trans hw135_2), ((HB.out.cell (World.block_lt_of_cell? w _ hw135_3)).trans hw135_3), ((HB.out.cell (World.block_lt_of_cell? w _ hw135_4)).trans hw135_4)⟩ (fun hHeld => ?_); refine with_tabW waiting_Place.tab8 waiting_Place.bits8 (fun HT_ HW_ => ?_); generalize w29.drew = w30 at BK131 BK134 HB hx135_0 hx135_1 hx135_2 hx135_3 hx135_4 hHeld ⊢; refine pure_ (i := 0) (N := some 23) (v := ?_) (a' := ?_) #[yT,nF,nF,nF,nF,nF,nF,nF,nF,nF,nF,nF,nF] rfl rfl (any_of HT_.out (by kernel_rfl)) (fun _ _ _ h => h) (Or.inl ⟨by rfl, ?_⟩) ?_ ?_; rotate_left; (intro w'; go_simp; with_reducible rfl); rotate_left; (simp only [Act.put, sqA, sqB, sqC, i64_w, i32_w]; rfl); refine take_ (i := 1) (N := some 24) (v := ?_) (a' := ?_) #[yT,yT,nF,nF,nF,nF,nF,nF,nF,nF,nF,nF,nF] rfl rfl (take_ofW HT_.out HW_.out (by kernel_rfl)) (fun _ _ _ h => h) (Or.inl ⟨by rfl, ?_⟩) hHeld ?_ ?_; rotate_left; (rintro w' ⟨s0, s1, s2, s3, s4, s5, s6, s7, s8, s9, s10, s11⟩; go_simp; with_reducible rfl); rotate_left; (simp only [Act.put, sqA, sqB, sqC, i64_w, i32_w]; rfl); refine take_ (i := 2) (N := some 25) (v := ?_) (a' := ?_) #[yT,yT,yT,nF,nF,nF,nF,nF,nF,nF,nF,nF,nF] rfl rfl (take_ofW HT_.out HW_.out (by kernel_rfl)) (fun _ _ _ h => h) (Or.inl ⟨by rfl, ?_⟩) hHeld ?_ ?_; rotate_left; (rintro w' ⟨s0, s1, s2, s3, s4, s5, s6, s7, s8, s9, s10, s11⟩; go_simp; with_reducible rfl); rotate_left; (simp only [Act.put, sqA, sqB, sqC, i64_w, i32_w]; rfl); refine pure_ (i := 3) (N := some 26) (v := ?_) (a' := ?_) #[yT,yT,yT,yT,nF,nF,nF,nF,nF,nF,nF,nF,nF] rfl rfl (any_of HT_.out (by kernel_rfl)) (fun _ _ _ h => h) (Or.inl ⟨by rfl, ?_⟩) ?_ ?_; rotate_left; (intro w'; go_simp; with_reducible rfl); rotate_left; (simp only [Act.put, sqA, sqB, sqC, i64_w, i32_w]; rfl); refine pure_ (i := 4) (N := some 27) (v := ?_) (a' := ?_) #[yT,yT,yT,yT,yT,nF,nF,nF,nF,nF,nF,nF,nF] rfl rfl (any_of HT_.out (by kernel_rfl)) (fun _ _ _ h => h) (Or.inl ⟨by rfl, ?_⟩) ?_ ?_; rotate_left; (intro w'; go_simp; with_reducible rfl); rotate_left; (simp only [Act.put, sqA, sqB, sqC, i64_w, i32_w]; rfl); refine pure_ (i := 6) (N := some 29) (v := ?_) (a' := ?_) #[yT,yT,yT,yT,yT,nF,yT,nF,nF,nF,nF,nF,nF] rfl rfl (any_of HT_.out (by kernel_rfl)) (fun _ _ _ h => h) (Or.inl ⟨by rfl, ?_⟩) ?_ ?_; rotate_left; (intro w'; go_simp; with_reducible rfl); rotate_left; (simp only [Act.put, sqA, sqB, sqC, i64_w, i32_w]; rfl); refine pure_ (i := 7) (N := some 30) (v := ?_) (a' := ?_) #[yT,yT,yT,yT,yT,nF,yT,yT,nF,nF,nF,nF,nF] rfl rfl (any_of HT_.out (by kernel_rfl)) (fun _ _ _ h => h) (Or.inl ⟨by rfl, ?_⟩) ?_ ?_; rotate_left; (intro w'; go_simp; with_reducible rfl); rotate_left; (simp only [Act.put, sqA, sqB, sqC, i64_w, i32_w]; rfl); refine pure_ (i := 8) (N := some 31) (v := ?_) (a' := ?_) #[yT,yT,yT,yT,yT,nF,yT,yT,yT,nF,nF,nF,nF] rfl rfl (any_of HT_.out (by kernel_rfl)) (fun _ _ _ h => h) (Or.inl ⟨by rfl, ?_⟩) ?_ ?_; rotate_left; (intro w'; go_simp; with_reducible rfl); rotate_left; (simp only [Act.put, sqA, sqB, sqC, i64_w, i32_w]; rfl); refine take_ (i := 5) (N := some 28) (v := ?_) (a' := ?_) #[yT,yT,yT,yT,yT,yT,yT,yT,yT,nF,nF,nF,nF] rfl rfl (take_ofW HT_.out HW_.out (by kernel_rfl)) (fun _ _ _ h => h) (Or.inl ⟨by rfl, ?_⟩) hHeld ?_ ?_; rotate_left; (rintro w' ⟨s0, s1, s2, s3, s4, s5, s6, s7, s8, s9, s10, s11⟩; go_simp; with_reducible rfl); rotate_left; (simp only [Act.put, sqA, sqB, sqC, i64_w, i32_w]; rfl); refine take_ (i := 9) (N := some 32) (v := ?_) (a' := ?_) #[yT,yT,yT,yT,yT,yT,yT,yT,yT,yT,nF,nF,nF] rfl rfl (take_ofW HT_.out HW_.out (by kernel_rfl)) (fun _ _ _ h => h) (Or.inl ⟨by rfl, ?_⟩) hHeld ?_ ?_; rotate_left; (rintro w' ⟨s0, s1, s2, s3, s4, s5, s6, s7, s8, s9, s10, s11⟩; go_simp; with_reducible rfl); rotate_left; (simp only [Act.put, sqA, sqB, sqC, i64_w, i32_w]; rfl); refine one_ (i := 10) (N := some 33) #[yT,yT,yT,yT,yT,yT,yT,yT,yT,yT,yT,nF,nF] rfl rfl (one_of HT_.out (by kernel_rfl)) (by decide) (fun K hK => ?_); refine goes_ Try.func31 (by kernel_rfl) rfl #[.agg #[.int .i64 ((rd_T26 l0 x19_1).f0), .int .i64 ((rd_T26 l0 x19_1).f1.f0), .int .i64 ((rd_T26 l0 x19_1).f1.f1), .int .i64 ((rd_T26 l0 x19_1).f2), .int .i64 ((rd_T26 l0 x19_1).f3)], .agg #[.int .i64 ((rd_T26 l0 t132).f0), .int .i64 ((rd_T26 l0 t132).f1.f0), .int .i64 ((rd_T26 l0 t132).f1.f1), .int .i64 ((rd_T26 l0 t132).f2), .int .i64 ((rd_T26 l0 t132).f3)]] (by rfl) rfl rfl (by (try simp only [List.map_toArray, List.map_cons, List.map_nil]); first | done | rfl | (simp only [List.length_drop, List.length_take]; rfl)) ?_; with_reducible refine (waiting_compare.calls ((rd_T26 l0 x19_1).f0) ((rd_T26 l0 x19_1).f1.f0) ((rd_T26 l0 x19_1).f1.f1) ((rd_T26 l0 x19_1).f2) ((rd_T26 l0 x19_1).f3) ((rd_T26 l0 t132).f0) ((rd_T26 l0 t132).f1.f0) ((rd_T26 l0 t132).f1.f1) ((rd_T26 l0 t132).f2) ((rd_T26 l0 t132).f3) t136 _ A18.out).mono ?_
           rintro e w31 ⟨rfl, hb⟩; refine ⟨_, rfl, ?_⟩; have n0_ := Aside0.mk (blk_below (g := gb131) (o := .cells #[.int .i64 a2_0, .int .i64 a2_1] 24 (0, 0)) (by (with_reducible repeat (first | refine blk_drewN ?_ _ | refine blk_drew ?_ | refine blk_alloc ?_ _)); exact BK131.out) hb); have n1_ := Aside0.mk (blk_below (g := gb134) (o := .cells #[.int .i64 ((rd_T26 l0 x19_1).f0), .int .i64 ((rd_T26 l0 x19_1).f1.f0), .int .i64 ((rd_T26 l0 x19_1).f1.f1), .int .i64 ((rd_T26 l0 x19_1).f2), .int .i64 ((rd_T26 l0 x19_1).f3)] 26 (0, 0)) (by (with_reducible repeat (first | refine blk_drewN ?_ _ | refine blk_drew ?_ | refine blk_alloc ?_ _)); exact BK134.out) hb); have n2_ := Aside0.mk (below_step (by repeat (first | (with_reducible first | exact HB.out | apply below_alloc | apply pw_below_drewN | apply below_drew1 | refine below_set ?_ GE131.out | refine below_set ?_ GE134.out) | exact HB.out)) hb); clear BK131; clear BK134; clear HB; have BK131 := n0_; have BK134 := n1_; have HB := n2_; clear n0_ n1_ n2_; (try clear hb)
           (try clear hb2)
           (try clear hk)
           (try clear hi)
           refine hK.out _ _ ⟨(blk_cell BK134.out 0).trans rfl, (blk_cell BK134.out 1).trans rfl, (blk_cell BK134.out 2).trans rfl, (blk_cell BK134.out 3).trans rfl, (blk_cell BK134.out 4).trans rfl, (blk_cell BK131.out 0).trans rfl, (blk_cell BK131.out 1).trans rfl, ((HB.out.cell (World.block_lt_of_cell? w _ hw135_0)).trans hw135_0), ((HB.out.cell (World.block_lt_of_cell? w _ hw135_1)).trans hw135_1), ((HB.out.cell (World.block_lt_of_cell? w _ hw135_2)).trans hw135_2), ((HB.out.cell (World.block_lt_of_cell? w _ hw135_3)).trans hw135_3), ((HB.out.cell (World.block_lt_of_cell? w _ hw135_4)).trans hw135_4)⟩ (fun hHeld => ?_); clear hK K; refine norm_ (a' := ?_) ?_ ?_; rotate_left
           ·show Act.put _ (some 33) _ = _
            simp only [Act.put, sqA, sqB, sqC, i64_w, i32_w]; rfl
           refine pure_ (i := 11) (N := some 34) (v := ?_) (a' := ?_) #[yT,yT,yT,yT,yT,yT,yT,yT,yT,yT,yT,yT,nF] rfl rfl (any_of HT_.out (by kernel_rfl)) (fun _ _ _ h => h) (Or.inl ⟨by rfl, ?_⟩) ?_ ?_; rotate_left; (intro w'; go_simp; with_reducible rfl); rotate_left; (simp only [Act.put, sqA, sqB, sqC, i64_w, i32_w]; rfl); refine pure_ (i := 12) (N := some 35) (v := ?_) (a' := ?_) #[yT,yT,yT,yT,yT,yT,yT,yT,yT,yT,yT,yT,yT] rfl rfl (any_of HT_.out (by kernel_rfl)) (fun _ _ _ h => h) (Or.inl ⟨by rfl, ?_⟩) ?_ ?_; rotate_left; (intro w'; go_simp; with_reducible rfl); rotate_left; (simp only [Act.put, sqA, sqB, sqC, i64_w, i32_w]; rfl); refine done_ (done_of HT_.out (by kernel_rfl)) ?_
           try go_wp2
           go_roundg k1
           case measure => have := HK1.out; omega
           case rel => exact ⟨(x6_1), (wrap64 (x19_1 + 1)), (by first | rfl | (simp; done) | (simp [*]; done)), (by first | rfl | (simp; done) | (simp [*]; done)), H', ⟨by have := HK1.out; omega⟩, ⟨by (with_reducible repeat (first | refine blk_drewN ?_ _ | refine blk_drew ?_ | refine blk_alloc ?_ _)); exact BK131.out⟩, ⟨by repeat (first | (with_reducible first | exact HB.out | apply below_alloc | apply pw_below_drewN | apply below_drew1 | refine below_set ?_ GE131.out | refine below_set ?_ GE134.out) | exact HB.out)⟩⟩
         (rw [if_neg c17] at H; exact absurd H (by simp))
        (rw [if_neg c16] at H; exact absurd H (by simp))
       ·rw [if_neg c15] at H; have c15b0 : (((rd_T26 l0 x19_1).f1.f0) == a2_0 && (((rd_T26 l0 x19_1).f1.f1) == a2_1)) = false := by simpa using c15
        (try (have c15b1 : decide (((rd_T26 l0 x19_1).f1.f0) = a2_0 && (((rd_T26 l0 x19_1).f1.f1) == a2_1)) = false := by simpa using c15))
        (try (have c15b2 : (((rd_T26 l0 x19_1).f1.f0) == a2_0 && (((rd_T26 l0 x19_1).f1.f1) == a2_1)) = false := by simpa using c15))
        (try (have c15b3 : ¬ (((rd_T26 l0 x19_1).f1.f0) = a2_0 && (((rd_T26 l0 x19_1).f1.f1) == a2_1)) := by simpa using c15))
        clear c15; have H' := Aside0.mk H; clear H; have p133 : 0 ≤ (x19_1 : Int) := of_decide_eq_true (by first | (with_reducible assumption) | assumption); have q133 : x19_1 < (l0.length : Int) := of_decide_eq_true (by first | (with_reducible assumption) | assumption); obtain ⟨ad133, e133, hx133_0, hx133_1, hx133_2, hx133_3, hx133_4⟩ := at_T26 HR0.out x19_1 p133 q133; cases e133; replace hx133_0 := (HB.out.cell (World.block_lt_of_cell? w _ hx133_0)).trans hx133_0; replace hx133_1 := (HB.out.cell (World.block_lt_of_cell? w _ hx133_1)).trans hx133_1; replace hx133_2 := (HB.out.cell (World.block_lt_of_cell? w _ hx133_2)).trans hx133_2; replace hx133_3 := (HB.out.cell (World.block_lt_of_cell? w _ hx133_3)).trans hx133_3; replace hx133_4 := (HB.out.cell (World.block_lt_of_cell? w _ hx133_4)).trans hx133_4; replace p133 := eq_true p133; replace q133 := eq_true q133
        try go_wp2_with (first | ((with_reducible refine gate_dst (N := 10) rfl ?_); refine box_event ?hg (N := 10) ?hd (cs := #[.int .i64 0, .int .i64 0, .int .i64 0, .int .i64 0, .int .i64 0]) (t := 26) ?hr ?_; (case hd => rfl); (case hg => rfl); (case hr => first | (go_simp; done) | (go_simp; rfl)); intro gb134 hg w32 hbox hb; have n0_ := Aside0.mk (blk_below (g := gb131) (o := .cells #[.int .i64 a2_0, .int .i64 a2_1] 24 (0, 0)) (by (with_reducible repeat (first | refine blk_drewN ?_ _ | refine blk_drew ?_ | refine blk_alloc ?_ _)); exact BK131.out) hb); have n1_ := Aside0.mk (below_step (by repeat (first | (with_reducible first | exact HB.out | apply below_alloc | apply pw_below_drewN | apply below_drew1 | refine below_set ?_ GE131.out) | exact HB.out)) hb); have n2_ := Aside0.mk (hbox); have n3_ := Aside0.mk ((by rw [hg]; exact (below_size (by repeat (first | (with_reducible first | exact HB.out | apply below_alloc | apply pw_below_drewN | apply below_drew1 | refine below_set ?_ GE131.out) | exact HB.out))) : w.heap.size ≤ gb134)); have n4_ := Aside0.mk ((by rw [hg]; exact (below_size (by repeat (first | (with_reducible first | exact HB.out | apply below_alloc | apply pw_below_drewN | apply below_drew1 | refine below_set ?_ GE131.out) | exact HB.out))) : w.heap.size ≤ gb134)); have n5_ := Aside0.mk ((by rw [hg]; exact Nat.ne_of_lt (blk_lt (g := gb131) (o := .cells #[.int .i64 a2_0, .int .i64 a2_1] 24 (0, 0)) (by (with_reducible repeat (first | refine blk_drewN ?_ _ | refine blk_drew ?_ | refine blk_alloc ?_ _)); exact BK131.out)) : gb131 ≠ gb134)); have n6_ := Aside0.mk ((by rw [hg]; exact Nat.ne_of_gt (blk_lt (g := gb131) (o := .cells #[.int .i64 a2_0, .int .i64 a2_1] 24 (0, 0)) (by (with_reducible repeat (first | refine blk_drewN ?_ _ | refine blk_drew ?_ | refine blk_alloc ?_ _)); exact BK131.out)) : gb134 ≠ gb131)); clear BK131; clear HB; have BK131 := n0_; have HB := n1_; have BK134 := n2_; have GW134 := n3_; have GE134 := n4_; have NB131_134 := n5_; have NB134_131 := n6_; clear n0_ n1_ n2_ n3_ n4_ n5_ n6_; clear hb hbox hg; have hnb33 := NB134_131.out; have hnc33 := NB131_134.out; have hcz34_0 : w32.cell? ⟨gb134, 0, none⟩ = some (.int .i64 0) := (blk_cell BK134.out 0).trans rfl; have hcz34_1 : w32.cell? ⟨gb134, 1, none⟩ = some (.int .i64 0) := (blk_cell BK134.out 1).trans rfl; have hcz34_2 : w32.cell? ⟨gb134, 2, none⟩ = some (.int .i64 0) := (blk_cell BK134.out 2).trans rfl; have hcz34_3 : w32.cell? ⟨gb134, 3, none⟩ = some (.int .i64 0) := (blk_cell BK134.out 3).trans rfl; have hcz34_4 : w32.cell? ⟨gb134, 4, none⟩ = some (.int .i64 0) := (blk_cell BK134.out 4).trans rfl; have hfz34_0 := blk_frozen BK134.out 0; have hfz34_1 := blk_frozen BK134.out 1; have hfz34_2 := blk_frozen BK134.out 2; have hfz34_3 := blk_frozen BK134.out 3; have hfz34_4 := blk_frozen BK134.out 4))
        have n0_ : Aside0 ((((((w32.setCell ⟨gb134, 0, none⟩ (.int .i64 ((rd_T26 l0 x19_1).f0))).setCell ⟨gb134, 1, none⟩ (.int .i64 ((rd_T26 l0 x19_1).f1.f0))).setCell ⟨gb134, 2, none⟩ (.int .i64 ((rd_T26 l0 x19_1).f1.f1))).setCell ⟨gb134, 3, none⟩ (.int .i64 ((rd_T26 l0 x19_1).f2))).setCell ⟨gb134, 4, none⟩ (.int .i64 ((rd_T26 l0 x19_1).f3))).heap[gb131]? = some (.cells #[.int .i64 a2_0, .int .i64 a2_1] 24 (0, 0))) := ⟨by (with_reducible repeat (first | refine blk_drewN ?_ _ | refine blk_drew ?_ | refine blk_alloc ?_ _)); refine blk_far ?_ NB131_134.out _; (with_reducible repeat (first | refine blk_drewN ?_ _ | refine blk_drew ?_ | refine blk_alloc ?_ _)); refine blk_far ?_ NB131_134.out _; (with_reducible repeat (first | refine blk_drewN ?_ _ | refine blk_drew ?_ | refine blk_alloc ?_ _)); refine blk_far ?_ NB131_134.out _; (with_reducible repeat (first | refine blk_drewN ?_ _ | refine blk_drew ?_ | refine blk_alloc ?_ _)); refine blk_far ?_ NB131_134.out _; (with_reducible repeat (first | refine blk_drewN ?_ _ | refine blk_drew ?_ | refine blk_alloc ?_ _)); refine blk_far ?_ NB131_134.out _; (with_reducible repeat (first | refine blk_drewN ?_ _ | refine blk_drew ?_ | refine blk_alloc ?_ _)); exact BK131.out⟩
        have n1_ : Aside0 ((((((w32.setCell ⟨gb134, 0, none⟩ (.int .i64 ((rd_T26 l0 x19_1).f0))).setCell ⟨gb134, 1, none⟩ (.int .i64 ((rd_T26 l0 x19_1).f1.f0))).setCell ⟨gb134, 2, none⟩ (.int .i64 ((rd_T26 l0 x19_1).f1.f1))).setCell ⟨gb134, 3, none⟩ (.int .i64 ((rd_T26 l0 x19_1).f2))).setCell ⟨gb134, 4, none⟩ (.int .i64 ((rd_T26 l0 x19_1).f3))).heap[gb134]? = some (.cells #[.int .i64 ((rd_T26 l0 x19_1).f0), .int .i64 ((rd_T26 l0 x19_1).f1.f0), .int .i64 ((rd_T26 l0 x19_1).f1.f1), .int .i64 ((rd_T26 l0 x19_1).f2), .int .i64 ((rd_T26 l0 x19_1).f3)] 26 (0, 0))) := ⟨by (with_reducible repeat (first | refine blk_drewN ?_ _ | refine blk_drew ?_ | refine blk_alloc ?_ _)); refine blk_put (cs := #[.int .i64 ((rd_T26 l0 x19_1).f0), .int .i64 ((rd_T26 l0 x19_1).f1.f0), .int .i64 ((rd_T26 l0 x19_1).f1.f1), .int .i64 ((rd_T26 l0 x19_1).f2), .int .i64 0]) ?_ 4 _ rfl; (with_reducible repeat (first | refine blk_drewN ?_ _ | refine blk_drew ?_ | refine blk_alloc ?_ _)); refine blk_put (cs := #[.int .i64 ((rd_T26 l0 x19_1).f0), .int .i64 ((rd_T26 l0 x19_1).f1.f0), .int .i64 ((rd_T26 l0 x19_1).f1.f1), .int .i64 0, .int .i64 0]) ?_ 3 _ rfl; (with_reducible repeat (first | refine blk_drewN ?_ _ | refine blk_drew ?_ | refine blk_alloc ?_ _)); refine blk_put (cs := #[.int .i64 ((rd_T26 l0 x19_1).f0), .int .i64 ((rd_T26 l0 x19_1).f1.f0), .int .i64 0, .int .i64 0, .int .i64 0]) ?_ 2 _ rfl; (with_reducible repeat (first | refine blk_drewN ?_ _ | refine blk_drew ?_ | refine blk_alloc ?_ _)); refine blk_put (cs := #[.int .i64 ((rd_T26 l0 x19_1).f0), .int .i64 0, .int .i64 0, .int .i64 0, .int .i64 0]) ?_ 1 _ rfl; (with_reducible repeat (first | refine blk_drewN ?_ _ | refine blk_drew ?_ | refine blk_alloc ?_ _)); refine blk_put (cs := #[.int .i64 0, .int .i64 0, .int .i64 0, .int .i64 0, .int .i64 0]) ?_ 0 _ rfl; (with_reducible repeat (first | refine blk_drewN ?_ _ | refine blk_drew ?_ | refine blk_alloc ?_ _)); exact BK134.out⟩
        have n2_ : Aside0 (Below w.heap.size w (((((w32.setCell ⟨gb134, 0, none⟩ (.int .i64 ((rd_T26 l0 x19_1).f0))).setCell ⟨gb134, 1, none⟩ (.int .i64 ((rd_T26 l0 x19_1).f1.f0))).setCell ⟨gb134, 2, none⟩ (.int .i64 ((rd_T26 l0 x19_1).f1.f1))).setCell ⟨gb134, 3, none⟩ (.int .i64 ((rd_T26 l0 x19_1).f2))).setCell ⟨gb134, 4, none⟩ (.int .i64 ((rd_T26 l0 x19_1).f3)))) := ⟨by repeat (first | (with_reducible first | exact HB.out | apply below_alloc | apply pw_below_drewN | apply below_drew1 | refine below_set ?_ GE131.out | refine below_set ?_ GE134.out) | exact HB.out)⟩
        (try clear BK131)
        (try clear BK134)
        (try clear HB)
        generalize (((((w32.setCell ⟨gb134, 0, none⟩ (.int .i64 ((rd_T26 l0 x19_1).f0))).setCell ⟨gb134, 1, none⟩ (.int .i64 ((rd_T26 l0 x19_1).f1.f0))).setCell ⟨gb134, 2, none⟩ (.int .i64 ((rd_T26 l0 x19_1).f1.f1))).setCell ⟨gb134, 3, none⟩ (.int .i64 ((rd_T26 l0 x19_1).f2))).setCell ⟨gb134, 4, none⟩ (.int .i64 ((rd_T26 l0 x19_1).f3))) = w35 at n0_ n1_ n2_ ⊢; have BK131 := n0_; have BK134 := n1_; have HB := n2_; clear n0_ n1_ n2_; have n0_ := Aside0.mk (blk_drew BK131.out); have n1_ := Aside0.mk (blk_drew BK134.out); have n2_ := Aside0.mk (below_drew1 HB.out); clear BK131; clear BK134; clear HB; have BK131 := n0_; have BK134 := n1_; have HB := n2_; clear n0_ n1_ n2_; refine start_ (n := 13) (S := fun w' => w'.cell? ⟨gb134, 0, none⟩ = some (.int .i64 ((rd_T26 l0 x19_1).f0)) ∧ w'.cell? ⟨gb134, 1, none⟩ = some (.int .i64 ((rd_T26 l0 x19_1).f1.f0)) ∧ w'.cell? ⟨gb134, 2, none⟩ = some (.int .i64 ((rd_T26 l0 x19_1).f1.f1)) ∧ w'.cell? ⟨gb134, 3, none⟩ = some (.int .i64 ((rd_T26 l0 x19_1).f2)) ∧ w'.cell? ⟨gb134, 4, none⟩ = some (.int .i64 ((rd_T26 l0 x19_1).f3)) ∧ w'.cell? ⟨gb131, 0, none⟩ = some (.int .i64 a2_0) ∧ w'.cell? ⟨gb131, 1, none⟩ = some (.int .i64 a2_1)) (ds := []) #[nF,nF,nF,nF,nF,nF,nF,nF,nF,nF,nF,nF,nF] (by kernel_rfl) rfl rfl ⟨(blk_cell BK134.out 0).trans rfl, (blk_cell BK134.out 1).trans rfl, (blk_cell BK134.out 2).trans rfl, (blk_cell BK134.out 3).trans rfl, (blk_cell BK134.out 4).trans rfl, (blk_cell BK131.out 0).trans rfl, (blk_cell BK131.out 1).trans rfl⟩ (fun hHeld => ?_); refine with_tabW waiting_Place.tab8 waiting_Place.bits8 (fun HT_ HW_ => ?_); generalize w35.drew = w36 at BK131 BK134 HB hHeld ⊢; refine pure_ (i := 0) (N := some 23) (v := ?_) (a' := ?_) #[yT,nF,nF,nF,nF,nF,nF,nF,nF,nF,nF,nF,nF] rfl rfl (any_of HT_.out (by kernel_rfl)) (fun _ _ _ h => h) (Or.inl ⟨by rfl, ?_⟩) ?_ ?_; rotate_left; (intro w'; go_simp; with_reducible rfl); rotate_left; (simp only [Act.put, sqA, sqB, sqC, i64_w, i32_w]; rfl); refine take_ (i := 1) (N := some 24) (v := ?_) (a' := ?_) #[yT,yT,nF,nF,nF,nF,nF,nF,nF,nF,nF,nF,nF] rfl rfl (take_ofW HT_.out HW_.out (by kernel_rfl)) (fun _ _ _ h => h) (Or.inl ⟨by rfl, ?_⟩) hHeld ?_ ?_; rotate_left; (rintro w' ⟨s0, s1, s2, s3, s4, s5, s6⟩; go_simp; with_reducible rfl); rotate_left; (simp only [Act.put, sqA, sqB, sqC, i64_w, i32_w]; rfl); refine take_ (i := 2) (N := some 25) (v := ?_) (a' := ?_) #[yT,yT,yT,nF,nF,nF,nF,nF,nF,nF,nF,nF,nF] rfl rfl (take_ofW HT_.out HW_.out (by kernel_rfl)) (fun _ _ _ h => h) (Or.inl ⟨by rfl, ?_⟩) hHeld ?_ ?_; rotate_left; (rintro w' ⟨s0, s1, s2, s3, s4, s5, s6⟩; go_simp; with_reducible rfl); rotate_left; (simp only [Act.put, sqA, sqB, sqC, i64_w, i32_w]; rfl); refine pure_ (i := 3) (N := some 26) (v := ?_) (a' := ?_) #[yT,yT,yT,yT,nF,nF,nF,nF,nF,nF,nF,nF,nF] rfl rfl (any_of HT_.out (by kernel_rfl)) (fun _ _ _ h => h) (Or.inl ⟨by rfl, ?_⟩) ?_ ?_; rotate_left; (intro w'; go_simp; with_reducible rfl); rotate_left; (simp only [Act.put, sqA, sqB, sqC, i64_w, i32_w]; rfl); refine pure_ (i := 4) (N := some 27) (v := ?_) (a' := ?_) #[yT,yT,yT,yT,yT,nF,nF,nF,nF,nF,nF,nF,nF] rfl rfl (any_of HT_.out (by kernel_rfl)) (fun _ _ _ h => h) (Or.inl ⟨by rfl, ?_⟩) ?_ ?_; rotate_left; (intro w'; go_simp; with_reducible rfl); rotate_left; (simp only [Act.put, sqA, sqB, sqC, i64_w, i32_w]; rfl); refine pure_ (i := 5) (N := some 28) (v := undef) (a' := ?_) #[yT,yT,yT,yT,yT,yT,nF,nF,nF,nF,nF,nF,nF] rfl rfl (any_of HT_.out (by kernel_rfl)) (fun _ _ _ h => h) (Or.inr ⟨by rfl, rfl⟩) ?_ ?_; rotate_left; (simp only [Act.put, sqA, sqB, sqC, i64_w, i32_w]; rfl); refine pure_ (i := 6) (N := some 29) (v := undef) (a' := ?_) #[yT,yT,yT,yT,yT,yT,yT,nF,nF,nF,nF,nF,nF] rfl rfl (any_of HT_.out (by kernel_rfl)) (fun _ _ _ h => h) (Or.inr ⟨by rfl, rfl⟩) ?_ ?_; rotate_left; (simp only [Act.put, sqA, sqB, sqC, i64_w, i32_w]; rfl); refine pure_ (i := 7) (N := some 30) (v := undef) (a' := ?_) #[yT,yT,yT,yT,yT,yT,yT,yT,nF,nF,nF,nF,nF] rfl rfl (any_of HT_.out (by kernel_rfl)) (fun _ _ _ h => h) (Or.inr ⟨by rfl, rfl⟩) ?_ ?_; rotate_left; (simp only [Act.put, sqA, sqB, sqC, i64_w, i32_w]; rfl); refine pure_ (i := 8) (N := some 31) (v := undef) (a' := ?_) #[yT,yT,yT,yT,yT,yT,yT,yT,yT,nF,nF,nF,nF] rfl rfl (any_of HT_.out (by kernel_rfl)) (fun _ _ _ h => h) (Or.inr ⟨by rfl, rfl⟩) ?_ ?_; rotate_left; (simp only [Act.put, sqA, sqB, sqC, i64_w, i32_w]; rfl); refine pure_ (i := 9) (N := some 32) (v := undef) (a' := ?_) #[yT,yT,yT,yT,yT,yT,yT,yT,yT,yT,nF,nF,nF] rfl rfl (any_of HT_.out (by kernel_rfl)) (fun _ _ _ h => h) (Or.inr ⟨by rfl, rfl⟩) ?_ ?_; rotate_left; (simp only [Act.put, sqA, sqB, sqC, i64_w, i32_w]; rfl); refine pure_ (i := 10) (N := some 33) (v := undef) (a' := ?_) #[yT,yT,yT,yT,yT,yT,yT,yT,yT,yT,yT,nF,nF] rfl rfl (any_of HT_.out (by kernel_rfl)) (fun _ _ _ h => h) (Or.inr ⟨by rfl, rfl⟩) ?_ ?_; rotate_left; (simp only [Act.put, sqA, sqB, sqC, i64_w, i32_w]; rfl); refine pure_ (i := 11) (N := some 34) (v := undef) (a' := ?_) #[yT,yT,yT,yT,yT,yT,yT,yT,yT,yT,yT,yT,nF] rfl rfl (any_of HT_.out (by kernel_rfl)) (fun _ _ _ h => h) (Or.inr ⟨by rfl, rfl⟩) ?_ ?_; rotate_left; (simp only [Act.put, sqA, sqB, sqC, i64_w, i32_w]; rfl); refine pure_ (i := 12) (N := some 35) (v := ?_) (a' := ?_) #[yT,yT,yT,yT,yT,yT,yT,yT,yT,yT,yT,yT,yT] rfl rfl (any_of HT_.out (by kernel_rfl)) (fun _ _ _ h => h) (Or.inl ⟨by rfl, ?_⟩) ?_ ?_; rotate_left; (intro w'; go_simp; with_reducible rfl); rotate_left; (simp only [Act.put, sqA, sqB, sqC, i64_w, i32_w]; rfl); refine done_ (done_of HT_.out (by kernel_rfl)) ?_
        try go_wp2
        go_roundg k1
        case measure => have := HK1.out; omega
        case rel => exact ⟨(x6_1), (wrap64 (x19_1 + 1)), (by first | rfl | (simp; done) | (simp [*]; done)), (by first | rfl | (simp; done) | (simp [*]; done)), H', ⟨by have := HK1.out; omega⟩, ⟨by (with_reducible repeat (first | refine blk_drewN ?_ _ | refine blk_drew ?_ | refine blk_alloc ?_ _)); exact BK131.out⟩, ⟨by repeat (first | (with_reducible first | exact HB.out | apply below_alloc | apply pw_below_drewN | apply below_drew1 | refine below_set ?_ GE131.out | refine below_set ?_ GE134.out) | exact HB.out)⟩⟩
      (rw [if_neg c14] at H; exact absurd H (by simp))
     (rw [if_neg c13] at H; exact absurd H (by simp))
    ·rw [if_neg c12] at H; have c12b0 : decide (x19_1 < (l0.length : Int)) = false := decide_eq_false c12; clear c12; simp only [Option.some.injEq, Prod.mk.injEq] at H; obtain ⟨rfl, rfl⟩ := H; go_wp2
     go_ret2
     exact ⟨by first | rfl | (simp [errW_none, errW_some] <;> rfl) | (simp [*, errW_none, errW_some] <;> rfl), by repeat (first | (with_reducible first | exact HB.out | apply below_alloc | apply pw_below_drewN | apply below_drew1 | refine below_set ?_ GE131.out) | exact HB.out)⟩
end Go.Proofs.Ytjffojmpfdoodaa.X
-- written by wip/xprint.py out of the translation (the kit's printer, driven)
namespace Go.Proofs.Ytjffojmpfdoodaa.X
open Go.RowKit Go.Proofs.YtjffojmpfdoodaaW.PrintWords Go.Proofs.YtjffojmpfdoodaaW.PrintLast Go.Proofs.YtjffojmpfdoodaaW.PrintMore
attribute [local go_sem] cell_twice max2_int min2_int max_two min_two max_three min_three max_four min_four   -- for this text's walks alone
set_option linter.unusedVariables false
set_option linter.unusedSimpArgs false

/-! ### waiting_Of: function 15 -/
def waiting_Of.l0 : Nat → Int → List (S24) → List (S26) → Int → Int → Option ((List (S24)))
  | 0, _, _, _, _, _ => none
  | k + 1, x1, x4, x7, x8, x9 => if x9 < x8 then (if 0 ≤ x9 then (if x9 < (x7.length : Int) then (if ((rd_T26 x7 x9).f0) = x1 then (if x4.length < 8796093022208 then (waiting_Of.l0 k x1 (x4 ++ [(⟨(rd_T26 x7 x9).f1.f0, (rd_T26 x7 x9).f1.f1⟩ : S24)]) x7 x8 (wrap64 (x9 + 1))) else (none)) else (waiting_Of.l0 k x1 x4 x7 x8 (wrap64 (x9 + 1)))) else (none)) else (none)) else (some x4)
def waiting_Of.f (k : Nat) (l0 : List (S26)) (a1 : Int) : Option ((List (S24))) := waiting_Of.l0 k a1 ([] : List (S24)) l0 (l0.length : Int) 0
theorem waiting_Of.mono_l : ∀ k, (∀ y0 y1 y2 y3 y4, LeO (waiting_Of.l0 k y0 y1 y2 y3 y4) (waiting_Of.l0 (k + 1) y0 y1 y2 y3 y4))
  | 0 => fun _ _ _ _ _ r h => by simp [waiting_Of.l0] at h
  | k + 1 => by
    have ih0 := waiting_Of.mono_l k
    · intro y0 y1 y2 y3 y4
      unfold waiting_Of.l0
      repeat' first
      | (with_reducible exact ih0 _ _ _ _ _)
      | (with_reducible exact LeO.refl _)
      | (with_reducible exact LeO.none _)
      | (with_reducible refine LeO.ite ?_ ?_)
      | (with_reducible refine LeO.bind ?_ (fun _ => ?_))
      | exact ih0 _ _ _ _ _
      | exact LeO.none _
      | refine LeO.ite ?_ ?_
      | refine LeO.bind ?_ (fun _ => ?_)
theorem waiting_Of.mono : ∀ a0 a1 k, LeO (waiting_Of.f k a0 a1) (waiting_Of.f (k + 1) a0 a1) := by
 intro a0 a1 k; have ih0 := waiting_Of.mono_l k; unfold waiting_Of.f
 repeat' first
     | (with_reducible exact ih0 _ _ _ _ _)
     | (with_reducible exact LeO.refl _)
     | (with_reducible exact LeO.none _)
     | (with_reducible refine LeO.ite ?_ ?_)
     | (with_reducible refine LeO.bind ?_ (fun _ => ?_))
     | exact ih0 _ _ _ _ _
     | exact LeO.none _
     | refine LeO.ite ?_ ?_
     | refine LeO.bind ?_ (fun _ => ?_)
set_option maxHeartbeats 8000000 in
set_option maxRecDepth 100000 in
theorem waiting_Of.calls (k : Nat) (A0 : Option Addr) (c0 : Nat) (l0 : List (S26)) (a1 : Int) (r : List (S24)) (w : World) (hr0 : Kd.C k26 w A0 l0.length l0) (hc0 : l0.length ≤ c0) (h : waiting_Of.f k l0 a1 = some r) :
    Calls Try.prog 15 #[.slice A0 l0.length c0, .int .i64 a1] w fun e w' => ∃ v0_ : Value, e = .returned (v0_) ∧ Kd.R k24 24 w' w.heap.size (fun _ => True) v0_ r ∧ Below w.heap.size w w' := by
 have hu26 := Try.underlying26; have hu24 := Try.underlying24; have HR0 := Aside0.mk hr0; have HC0 := Aside0.mk hc0; clear hr0 hc0; have HB := Aside0.mk (Below.refl w.heap.size w); have H : (waiting_Of.l0 k a1 ([] : List (S24)) l0 (l0.length : Int) 0) = some r := h; clear h; have H' := Aside0.mk H; clear H; go_enter Try.func15, Try.ntmps15; go_wp2
 go_loopg [4, 9] k (fun kq v4 v9 w' => ∃ (x4_1 : List (S24)) (x9_1 : Int), v9 = .int .i64 x9_1 ∧ Aside0 (waiting_Of.l0 kq a1 x4_1 l0 (l0.length : Int) x9_1 = some r) ∧ Aside0 (kq ≤ k) ∧ Aside0 (Kd.R k24 24 w' w.heap.size (fun _ => True) v4 x4_1) ∧ Aside0 (Below w.heap.size w w'))
 case atStart => exact ⟨(([] : List (S24))), (0), (by first | rfl | (simp; done) | (simp [*]; done)), H', ⟨Nat.le_refl _⟩, ⟨by first | exact Kd.R_nil _ _ _ _ _ | exact Kd.N_nil _ _ _ _ _ | exact Kd.V_nil _ _ _ _ _ | exact Kd.Q_nil _ _ _ _ _ | exact Kd.S_nil _ _ _ _ _⟩, ⟨by repeat (first | (with_reducible first | exact HB.out | apply below_alloc | apply pw_below_drewN | apply below_drew1) | exact HB.out)⟩⟩
 case round =>
  clear H'
  try clear c1
  try clear p2
  obtain ⟨x4_1, x9_1, rfl, HA, HK1, HO_4, HB⟩ := hrel; cases gk with
  | zero => exact absurd HA.out (by simp [waiting_Of.l0])
  | succ k1 =>
   have H := HA.out; clear HA; simp only [waiting_Of.l0] at H; by_cases c3 : x9_1 < (l0.length : Int)
   ·rw [if_pos c3] at H; have c3b0 : decide (x9_1 < (l0.length : Int)) = true := decide_eq_true c3; clear c3; by_cases c4 : 0 ≤ x9_1
    ·rw [if_pos c4] at H; have c4b0 : decide (0 ≤ x9_1) = true := decide_eq_true c4; clear c4; by_cases c5 : x9_1 < (l0.length : Int)
     ·rw [if_pos c5] at H; have c5b0 : decide (x9_1 < (l0.length : Int)) = true := decide_eq_true c5; clear c5; by_cases c6 : ((rd_T26 l0 x9_1).f0) = a1
      ·rw [if_pos c6] at H; have c6b0 : (((rd_T26 l0 x9_1).f0) == a1) = true := beq_iff_eq.mpr c6; have c6b1 : (((rd_T26 l0 x9_1).f0) != a1) = false := bne_eq_false_iff_eq.mpr c6; clear c6; by_cases c7 : x4_1.length < 8796093022208
       ·rw [if_pos c7] at H; have LMc7 := Aside0.mk c7; clear c7; obtain ⟨y139, hy139⟩ : ∃ y_ : List (S24), y_ = (x4_1 ++ [(⟨(rd_T26 l0 x9_1).f1.f0, (rd_T26 l0 x9_1).f1.f1⟩ : S24)]) := ⟨_, rfl⟩
        replace H : (waiting_Of.l0 k1 a1 y139 l0 (l0.length : Int) (wrap64 (x9_1 + 1))) = some r := by first | (rw [hy139]; with_reducible exact H) | (have H2_ := (Option.bind_some _ _).symm.trans H; rw [hy139]; with_reducible exact H2_) | (have H2_ := (Option.bind_some _ _).symm.trans H; with_reducible exact H2_) | with_reducible exact H | (rw [hy139]; exact H) | exact H
        have Ny139 := Aside0.mk hy139; clear hy139; have H' := Aside0.mk H; clear H; have p137 : 0 ≤ (x9_1 : Int) := of_decide_eq_true (by first | (with_reducible assumption) | assumption); have q137 : x9_1 < (l0.length : Int) := of_decide_eq_true (by first | (with_reducible assumption) | assumption); obtain ⟨ad137, e137, hx137_0, hx137_1, hx137_2, hx137_3, hx137_4⟩ := at_T26 HR0.out x9_1 p137 q137; cases e137; replace hx137_0 := (HB.out.cell (World.block_lt_of_cell? w _ hx137_0)).trans hx137_0; replace hx137_1 := (HB.out.cell (World.block_lt_of_cell? w _ hx137_1)).trans hx137_1; replace hx137_2 := (HB.out.cell (World.block_lt_of_cell? w _ hx137_2)).trans hx137_2; replace hx137_3 := (HB.out.cell (World.block_lt_of_cell? w _ hx137_3)).trans hx137_3; replace hx137_4 := (HB.out.cell (World.block_lt_of_cell? w _ hx137_4)).trans hx137_4; replace p137 := eq_true p137; replace q137 := eq_true q137; go_wp2_with (first | ((with_reducible refine gate_dst (N := 6) rfl ?_); refine box_event ?hg (N := 6) ?hd (cs := #[.int .i64 0, .int .i64 0, .int .i64 0, .int .i64 0, .int .i64 0]) (t := 26) ?hr ?_; (case hd => rfl); (case hg => rfl); (case hr => first | (go_simp; done) | (go_simp; rfl)); intro gb138 hg w8 hbox hb; have n0_ := Aside0.mk (Kd.R_below (by (with_reducible repeat (first | apply Kd.R_alloc | apply Kd.R_drewN | apply Kd.R_drew)); exact HO_4.out) hb); have n1_ := Aside0.mk (below_step (by repeat (first | (with_reducible first | exact HB.out | apply below_alloc | apply pw_below_drewN | apply below_drew1) | exact HB.out)) hb); have n2_ := Aside0.mk (hbox); have n3_ := Aside0.mk ((by rw [hg]; exact (below_size (by repeat (first | (with_reducible first | exact HB.out | apply below_alloc | apply pw_below_drewN | apply below_drew1) | exact HB.out))) : w.heap.size ≤ gb138)); have n4_ := Aside0.mk ((by rw [hg]; exact (below_size (by repeat (first | (with_reducible first | exact HB.out | apply below_alloc | apply pw_below_drewN | apply below_drew1) | exact HB.out))) : w.heap.size ≤ gb138)); clear HO_4; clear HB; have HO_4 := n0_; have HB := n1_; have BK138 := n2_; have GW138 := n3_; have GE138 := n4_; clear n0_ n1_ n2_ n3_ n4_; clear hb hbox hg; have hcz9_0 : w8.cell? ⟨gb138, 0, none⟩ = some (.int .i64 0) := (blk_cell BK138.out 0).trans rfl; have hcz9_1 : w8.cell? ⟨gb138, 1, none⟩ = some (.int .i64 0) := (blk_cell BK138.out 1).trans rfl; have hcz9_2 : w8.cell? ⟨gb138, 2, none⟩ = some (.int .i64 0) := (blk_cell BK138.out 2).trans rfl; have hcz9_3 : w8.cell? ⟨gb138, 3, none⟩ = some (.int .i64 0) := (blk_cell BK138.out 3).trans rfl; have hcz9_4 : w8.cell? ⟨gb138, 4, none⟩ = some (.int .i64 0) := (blk_cell BK138.out 4).trans rfl; have hfz9_0 := blk_frozen BK138.out 0; have hfz9_1 := blk_frozen BK138.out 1; have hfz9_2 := blk_frozen BK138.out 2; have hfz9_3 := blk_frozen BK138.out 3; have hfz9_4 := blk_frozen BK138.out 4) | ((with_reducible refine gate_builtin (b := .append) (xs := #[.tmp 17, .tmp 20]) rfl ?_); at_builtin; refine Kd.R_append k24 (w0 := w) w.heap.size rfl (.tmp 17) (.tmp 20) 35 24 (.agg #[(.int .i64 0), (.int .i64 0)]) 16 rfl Try.underlying35 info24 rfl (by decide) (by omega) u4 x4_1 (⟨(rd_T26 l0 x9_1).f1.f0, (rd_T26 l0 x9_1).f1.f1⟩ : S24) [.int .i64 ((rd_T26 l0 x9_1).f1.f0), .int .i64 ((rd_T26 l0 x9_1).f1.f1)] (fun _ => True) (fun _ => False) rfl (by first | (go_simp; done) | (go_simp; rfl)) ?aP (fun _ hk => hk.elim) ?aF ?aO ?aB ?aS ?aL ?_; (case aP => exact k24_mkM _ _ _ (⟨(rd_T26 l0 x9_1).f1.f0, (rd_T26 l0 x9_1).f1.f1⟩ : S24)); (case aB => exact (by repeat (first | (with_reducible first | exact HB.out | apply below_alloc | apply pw_below_drewN | apply below_drew1 | refine below_set ?_ GE138.out) | exact HB.out))); (case aF => exact (fun _ _ => trivial)); (case aO => exact (by (with_reducible repeat (first | apply Kd.R_alloc | apply Kd.R_drewN | apply Kd.R_drew)); exact Kd.R_mono (Kd.R_far (p := ⟨gb138, 4, none⟩) (Kd.R_far (p := ⟨gb138, 3, none⟩) (Kd.R_far (p := ⟨gb138, 2, none⟩) (Kd.R_far (p := ⟨gb138, 1, none⟩) (Kd.R_far (p := ⟨gb138, 0, none⟩) (Kd.R_types HO_4.out BK138.out (by decide)) (fun _ hk => hk.2) (.int .i64 ((rd_T26 l0 x9_1).f0))) (fun _ hk => hk.2) (.int .i64 ((rd_T26 l0 x9_1).f1.f0))) (fun _ hk => hk.2) (.int .i64 ((rd_T26 l0 x9_1).f1.f1))) (fun _ hk => hk.2) (.int .i64 ((rd_T26 l0 x9_1).f2))) (fun _ hk => hk.2) (.int .i64 ((rd_T26 l0 x9_1).f3))) (fun _ hk => trivial))); (case aS => exact (below_size (by repeat (first | (with_reducible first | exact HB.out | apply below_alloc | apply pw_below_drewN | apply below_drew1 | refine below_set ?_ GE138.out) | exact HB.out)))); (case aL => have := LMc7.out; omega); intro v140 w10 ho hb hg hat; rw [← Ny139.out] at ho; have n0_ := Aside0.mk (blk_grown (g := gb138) (o := .cells #[.int .i64 ((rd_T26 l0 x9_1).f0), .int .i64 ((rd_T26 l0 x9_1).f1.f0), .int .i64 ((rd_T26 l0 x9_1).f1.f1), .int .i64 ((rd_T26 l0 x9_1).f2), .int .i64 ((rd_T26 l0 x9_1).f3)] 26 (0, 0)) (by (with_reducible repeat (first | refine blk_drewN ?_ _ | refine blk_drew ?_ | refine blk_alloc ?_ _)); refine blk_put (cs := #[.int .i64 ((rd_T26 l0 x9_1).f0), .int .i64 ((rd_T26 l0 x9_1).f1.f0), .int .i64 ((rd_T26 l0 x9_1).f1.f1), .int .i64 ((rd_T26 l0 x9_1).f2), .int .i64 0]) ?_ 4 _ rfl; (with_reducible repeat (first | refine blk_drewN ?_ _ | refine blk_drew ?_ | refine blk_alloc ?_ _)); refine blk_put (cs := #[.int .i64 ((rd_T26 l0 x9_1).f0), .int .i64 ((rd_T26 l0 x9_1).f1.f0), .int .i64 ((rd_T26 l0 x9_1).f1.f1), .int .i64 0, .int .i64 0]) ?_ 3 _ rfl; (with_reducible repeat (first | refine blk_drewN ?_ _ | refine blk_drew ?_ | refine blk_alloc ?_ _)); refine blk_put (cs := #[.int .i64 ((rd_T26 l0 x9_1).f0), .int .i64 ((rd_T26 l0 x9_1).f1.f0), .int .i64 0, .int .i64 0, .int .i64 0]) ?_ 2 _ rfl; (with_reducible repeat (first | refine blk_drewN ?_ _ | refine blk_drew ?_ | refine blk_alloc ?_ _)); refine blk_put (cs := #[.int .i64 ((rd_T26 l0 x9_1).f0), .int .i64 0, .int .i64 0, .int .i64 0, .int .i64 0]) ?_ 1 _ rfl; (with_reducible repeat (first | refine blk_drewN ?_ _ | refine blk_drew ?_ | refine blk_alloc ?_ _)); refine blk_put (cs := #[.int .i64 0, .int .i64 0, .int .i64 0, .int .i64 0, .int .i64 0]) ?_ 0 _ rfl; (with_reducible repeat (first | refine blk_drewN ?_ _ | refine blk_drew ?_ | refine blk_alloc ?_ _)); exact BK138.out) hg (Kd.R_ne HO_4.out BK138.out (by decide))); have n1_ := Aside0.mk (hb); have n2_ := Aside0.mk (ho); clear BK138; clear HB; clear HO_4; have BK138 := n0_; have HB := n1_; have HO141 := n2_; clear n0_ n1_ n2_; clear ho hb hg hat))
        go_roundg k1
        case measure => have := HK1.out; omega
        case rel => exact ⟨(y139), (wrap64 (x9_1 + 1)), (by first | rfl | (simp; done) | (simp [*]; done)), H', ⟨by have := HK1.out; omega⟩, ⟨by (with_reducible repeat (first | apply Kd.R_alloc | apply Kd.R_drewN | apply Kd.R_drew)); exact HO141.out⟩, ⟨by repeat (first | (with_reducible first | exact HB.out | apply below_alloc | apply pw_below_drewN | apply below_drew1 | refine below_set ?_ GE138.out) | exact HB.out)⟩⟩
       (rw [if_neg c7] at H; exact absurd H (by simp))
      ·rw [if_neg c6] at H; have c6b0 : (((rd_T26 l0 x9_1).f0) == a1) = false := beq_eq_false_iff_ne.mpr c6; have c6b1 : (((rd_T26 l0 x9_1).f0) != a1) = true := bne_iff_ne.mpr c6; have H' := Aside0.mk H; clear H; have p137 : 0 ≤ (x9_1 : Int) := of_decide_eq_true (by first | (with_reducible assumption) | assumption); have q137 : x9_1 < (l0.length : Int) := of_decide_eq_true (by first | (with_reducible assumption) | assumption); obtain ⟨ad137, e137, hx137_0, hx137_1, hx137_2, hx137_3, hx137_4⟩ := at_T26 HR0.out x9_1 p137 q137; cases e137; replace hx137_0 := (HB.out.cell (World.block_lt_of_cell? w _ hx137_0)).trans hx137_0; replace hx137_1 := (HB.out.cell (World.block_lt_of_cell? w _ hx137_1)).trans hx137_1; replace hx137_2 := (HB.out.cell (World.block_lt_of_cell? w _ hx137_2)).trans hx137_2; replace hx137_3 := (HB.out.cell (World.block_lt_of_cell? w _ hx137_3)).trans hx137_3; replace hx137_4 := (HB.out.cell (World.block_lt_of_cell? w _ hx137_4)).trans hx137_4; replace p137 := eq_true p137; replace q137 := eq_true q137; go_wp2_with (first | ((with_reducible refine gate_dst (N := 6) rfl ?_); refine box_event ?hg (N := 6) ?hd (cs := #[.int .i64 0, .int .i64 0, .int .i64 0, .int .i64 0, .int .i64 0]) (t := 26) ?hr ?_; (case hd => rfl); (case hg => rfl); (case hr => first | (go_simp; done) | (go_simp; rfl)); intro gb138 hg w11 hbox hb; have n0_ := Aside0.mk (Kd.R_below (by (with_reducible repeat (first | apply Kd.R_alloc | apply Kd.R_drewN | apply Kd.R_drew)); exact HO_4.out) hb); have n1_ := Aside0.mk (below_step (by repeat (first | (with_reducible first | exact HB.out | apply below_alloc | apply pw_below_drewN | apply below_drew1) | exact HB.out)) hb); have n2_ := Aside0.mk (hbox); have n3_ := Aside0.mk ((by rw [hg]; exact (below_size (by repeat (first | (with_reducible first | exact HB.out | apply below_alloc | apply pw_below_drewN | apply below_drew1) | exact HB.out))) : w.heap.size ≤ gb138)); have n4_ := Aside0.mk ((by rw [hg]; exact (below_size (by repeat (first | (with_reducible first | exact HB.out | apply below_alloc | apply pw_below_drewN | apply below_drew1) | exact HB.out))) : w.heap.size ≤ gb138)); clear HO_4; clear HB; have HO_4 := n0_; have HB := n1_; have BK138 := n2_; have GW138 := n3_; have GE138 := n4_; clear n0_ n1_ n2_ n3_ n4_; clear hb hbox hg; have hcz12_0 : w11.cell? ⟨gb138, 0, none⟩ = some (.int .i64 0) := (blk_cell BK138.out 0).trans rfl; have hcz12_1 : w11.cell? ⟨gb138, 1, none⟩ = some (.int .i64 0) := (blk_cell BK138.out 1).trans rfl; have hcz12_2 : w11.cell? ⟨gb138, 2, none⟩ = some (.int .i64 0) := (blk_cell BK138.out 2).trans rfl; have hcz12_3 : w11.cell? ⟨gb138, 3, none⟩ = some (.int .i64 0) := (blk_cell BK138.out 3).trans rfl; have hcz12_4 : w11.cell? ⟨gb138, 4, none⟩ = some (.int .i64 0) := (blk_cell BK138.out 4).trans rfl; have hfz12_0 := blk_frozen BK138.out 0; have hfz12_1 := blk_frozen BK138.out 1; have hfz12_2 := blk_frozen BK138.out 2; have hfz12_3 := blk_frozen BK138.out 3; have hfz12_4 := blk_frozen BK138.out 4))
       go_roundg k1
       case measure => have := HK1.out; omega
       case rel => exact ⟨(x4_1), (wrap64 (x9_1 + 1)), (by first | rfl | (simp; done) | (simp [*]; done)), H', ⟨by have := HK1.out; omega⟩, ⟨by (with_reducible repeat (first | apply Kd.R_alloc | apply Kd.R_drewN | apply Kd.R_drew)); exact Kd.R_mono (Kd.R_far (p := ⟨gb138, 4, none⟩) (Kd.R_far (p := ⟨gb138, 3, none⟩) (Kd.R_far (p := ⟨gb138, 2, none⟩) (Kd.R_far (p := ⟨gb138, 1, none⟩) (Kd.R_far (p := ⟨gb138, 0, none⟩) (Kd.R_types HO_4.out BK138.out (by decide)) (fun _ hk => hk.2) (.int .i64 ((rd_T26 l0 x9_1).f0))) (fun _ hk => hk.2) (.int .i64 ((rd_T26 l0 x9_1).f1.f0))) (fun _ hk => hk.2) (.int .i64 ((rd_T26 l0 x9_1).f1.f1))) (fun _ hk => hk.2) (.int .i64 ((rd_T26 l0 x9_1).f2))) (fun _ hk => hk.2) (.int .i64 ((rd_T26 l0 x9_1).f3))) (fun _ hk => trivial)⟩, ⟨by repeat (first | (with_reducible first | exact HB.out | apply below_alloc | apply pw_below_drewN | apply below_drew1 | refine below_set ?_ GE138.out) | exact HB.out)⟩⟩
     (rw [if_neg c5] at H; exact absurd H (by simp))
    (rw [if_neg c4] at H; exact absurd H (by simp))
   ·rw [if_neg c3] at H; have c3b0 : decide (x9_1 < (l0.length : Int)) = false := decide_eq_false c3; clear c3; obtain rfl := Option.some.inj H; go_wp2
    go_ret; exact ⟨_, by first | rfl | (simp [errW_none, errW_some] <;> rfl) | (simp [*, errW_none, errW_some] <;> rfl), by (with_reducible repeat (first | apply Kd.R_alloc | apply Kd.R_drewN | apply Kd.R_drew)); exact HO_4.out, by repeat (first | (with_reducible first | exact HB.out | apply below_alloc | apply pw_below_drewN | apply below_drew1) | exact HB.out)⟩
end Go.Proofs.Ytjffojmpfdoodaa.X
-- written by wip/xprint.py out of the translation (the kit's printer, driven)
namespace Go.Proofs.Ytjffojmpfdoodaa.X
open Go.RowKit Go.Proofs.YtjffojmpfdoodaaW.PrintWords Go.Proofs.YtjffojmpfdoodaaW.PrintLast Go.Proofs.YtjffojmpfdoodaaW.PrintMore
attribute [local go_sem] cell_twice max2_int min2_int max_two min_two max_three min_three max_four min_four   -- for this text's walks alone
set_option linter.unusedVariables false
set_option linter.unusedSimpArgs false

attribute [local go_sem high] eqA24
/-! ### sizarref26_SameBundles: function 16 -/
def sizarref26_SameBundles.l0 : Nat → List (S24) → List (S24) → Int → Option (Bool)
  | 0, _, _, _ => none
  | k + 1, x0, x1, x5 => if x5 < (x0.length : Int) then (if 0 ≤ x5 then (if x5 < (x1.length : Int) then (if (!(((rd_T24 x0 x5).f0) == ((rd_T24 x1 x5).f0)) || (!(((rd_T24 x0 x5).f1) == ((rd_T24 x1 x5).f1)))) = true then (some false) else (sizarref26_SameBundles.l0 k x0 x1 (wrap64 (x5 + 1)))) else (none)) else (none)) else (some true)
def sizarref26_SameBundles.f (k : Nat) (l0 : List (S24)) (l1 : List (S24)) : Option (Bool) := if (l0.length : Int) = (l1.length : Int) then (sizarref26_SameBundles.l0 k l0 l1 0) else (some false)
theorem sizarref26_SameBundles.mono_l : ∀ k, (∀ y0 y1 y2, LeO (sizarref26_SameBundles.l0 k y0 y1 y2) (sizarref26_SameBundles.l0 (k + 1) y0 y1 y2))
  | 0 => fun _ _ _ r h => by simp [sizarref26_SameBundles.l0] at h
  | k + 1 => by
    have ih0 := sizarref26_SameBundles.mono_l k
    · intro y0 y1 y2
      unfold sizarref26_SameBundles.l0
      repeat' first
      | (with_reducible exact ih0 _ _ _)
      | (with_reducible exact LeO.refl _)
      | (with_reducible exact LeO.none _)
      | (with_reducible refine LeO.ite ?_ ?_)
      | (with_reducible refine LeO.bind ?_ (fun _ => ?_))
      | exact ih0 _ _ _
      | exact LeO.none _
      | refine LeO.ite ?_ ?_
      | refine LeO.bind ?_ (fun _ => ?_)
theorem sizarref26_SameBundles.mono : ∀ a0 a1 k, LeO (sizarref26_SameBundles.f k a0 a1) (sizarref26_SameBundles.f (k + 1) a0 a1) := by
 intro a0 a1 k; have ih0 := sizarref26_SameBundles.mono_l k; unfold sizarref26_SameBundles.f
 repeat' first
     | (with_reducible exact ih0 _ _ _)
     | (with_reducible exact LeO.refl _)
     | (with_reducible exact LeO.none _)
     | (with_reducible refine LeO.ite ?_ ?_)
     | (with_reducible refine LeO.bind ?_ (fun _ => ?_))
     | exact ih0 _ _ _
     | exact LeO.none _
     | refine LeO.ite ?_ ?_
     | refine LeO.bind ?_ (fun _ => ?_)
set_option maxHeartbeats 8000000 in
set_option maxRecDepth 100000 in
theorem sizarref26_SameBundles.calls (k : Nat) (A0 : Option Addr) (c0 : Nat) (l0 : List (S24)) (A1 : Option Addr) (c1 : Nat) (l1 : List (S24)) (r : Bool) (w : World) (hr0 : Kd.C k24 w A0 l0.length l0) (hc0 : l0.length ≤ c0) (hr1 : Kd.C k24 w A1 l1.length l1) (hc1 : l1.length ≤ c1) (h : sizarref26_SameBundles.f k l0 l1 = some r) :
    Calls Try.prog 16 #[.slice A0 l0.length c0, .slice A1 l1.length c1] w fun e w' => e = .returned (.bool r) ∧ Drawn0 w w' := by
 have hu24 := Try.underlying24; have HR0 := Aside0.mk hr0; have HC0 := Aside0.mk hc0; clear hr0 hc0; have HR1 := Aside0.mk hr1; have HC1 := Aside0.mk hc1; clear hr1 hc1; have H : (if (l0.length : Int) = (l1.length : Int) then (sizarref26_SameBundles.l0 k l0 l1 0) else (some false)) = some r := h; clear h; by_cases c3 : (l0.length : Int) = (l1.length : Int)
 ·rw [if_pos c3] at H; have c3b0 : ((l0.length : Int) == (l1.length : Int)) = true := beq_iff_eq.mpr c3; have c3b1 : ((l0.length : Int) != (l1.length : Int)) = false := bne_eq_false_iff_eq.mpr c3; have c3b2 : (l0.length == l1.length) = true := by first | simpa using c3 | (simp at c3 ⊢; omega)
  clear c3; have H' := Aside0.mk H; clear H; go_enter Try.func16, Try.ntmps16; go_wp2
  repeat (go_quiet (fail); try go_wp2)
  go_loopg [5] k (fun kq v5 w' => ∃ (x5_1 : Int), v5 = .int .i64 x5_1 ∧ Aside0 (sizarref26_SameBundles.l0 kq l0 l1 x5_1 = some r) ∧ Aside0 (kq ≤ k) ∧ Drawn0 w w')
  case atStart => exact ⟨(0), (by first | rfl | (simp; done) | (simp [*]; done)), H', ⟨Nat.le_refl _⟩, by repeat (first | exact Drawn0.refl _ | apply Drawn0.step)⟩
  case round =>
   clear H'
   try clear c1
   try clear p2
   try clear c3
   try clear c3b0
   try clear c3b1
   try clear c3b2
   obtain ⟨x5_1, rfl, HA, HK1, ⟨m1, rfl⟩⟩ := hrel; cases gk with
   | zero => exact absurd HA.out (by simp [sizarref26_SameBundles.l0])
   | succ k1 =>
    have H := HA.out; clear HA; simp only [sizarref26_SameBundles.l0] at H; by_cases c4 : x5_1 < (l0.length : Int)
    ·rw [if_pos c4] at H; have c4b0 : decide (x5_1 < (l0.length : Int)) = true := decide_eq_true c4; clear c4; by_cases c5 : 0 ≤ x5_1
     ·rw [if_pos c5] at H; have c5b0 : decide (0 ≤ x5_1) = true := decide_eq_true c5; clear c5; by_cases c6 : x5_1 < (l1.length : Int)
      ·rw [if_pos c6] at H; have c6b0 : decide (x5_1 < (l1.length : Int)) = true := decide_eq_true c6; clear c6; by_cases c7 : (!(((rd_T24 l0 x5_1).f0) == ((rd_T24 l1 x5_1).f0)) || (!(((rd_T24 l0 x5_1).f1) == ((rd_T24 l1 x5_1).f1)))) = true
       ·rw [if_pos c7] at H; have c7b0 : (!(((rd_T24 l0 x5_1).f0) == ((rd_T24 l1 x5_1).f0)) || (!(((rd_T24 l0 x5_1).f1) == ((rd_T24 l1 x5_1).f1)))) = true := c7; clear c7; obtain rfl := Option.some.inj H; have p142 : 0 ≤ (x5_1 : Int) := of_decide_eq_true (by first | (with_reducible assumption) | assumption); have q142 : x5_1 < (l0.length : Int) := of_decide_eq_true (by first | (with_reducible assumption) | assumption); obtain ⟨ad142, e142, hx142_0, hx142_1⟩ := at_T24 HR0.out x5_1 p142 q142; cases e142; replace p142 := eq_true p142; replace q142 := eq_true q142; have p143 : 0 ≤ (x5_1 : Int) := of_decide_eq_true (by first | (with_reducible assumption) | assumption); have q143 : x5_1 < (l1.length : Int) := of_decide_eq_true (by first | (with_reducible assumption) | assumption); obtain ⟨ad143, e143, hx143_0, hx143_1⟩ := at_T24 HR1.out x5_1 p143 q143; cases e143; replace p143 := eq_true p143; replace q143 := eq_true q143; go_wp2
        repeat (go_quiet (fail); try go_wp2)
        go_ret; exact ⟨by first | rfl | (simp; done) | (simp [*]; done), by repeat (first | exact Drawn0.refl _ | apply Drawn0.step)⟩
       ·rw [if_neg c7] at H; have c7b0 : (!(((rd_T24 l0 x5_1).f0) == ((rd_T24 l1 x5_1).f0)) || (!(((rd_T24 l0 x5_1).f1) == ((rd_T24 l1 x5_1).f1)))) = false := by simpa using c7
        clear c7; have H' := Aside0.mk H; clear H; have p142 : 0 ≤ (x5_1 : Int) := of_decide_eq_true (by first | (with_reducible assumption) | assumption); have q142 : x5_1 < (l0.length : Int) := of_decide_eq_true (by first | (with_reducible assumption) | assumption); obtain ⟨ad142, e142, hx142_0, hx142_1⟩ := at_T24 HR0.out x5_1 p142 q142; cases e142; replace p142 := eq_true p142; replace q142 := eq_true q142; have p143 : 0 ≤ (x5_1 : Int) := of_decide_eq_true (by first | (with_reducible assumption) | assumption); have q143 : x5_1 < (l1.length : Int) := of_decide_eq_true (by first | (with_reducible assumption) | assumption); obtain ⟨ad143, e143, hx143_0, hx143_1⟩ := at_T24 HR1.out x5_1 p143 q143; cases e143; replace p143 := eq_true p143; replace q143 := eq_true q143; go_wp2
        repeat (go_quiet (fail); try go_wp2)
        go_roundg k1
        case measure => have := HK1.out; omega
        case rel => exact ⟨(wrap64 (x5_1 + 1)), (by first | rfl | (simp; done) | (simp [*]; done)), H', ⟨by have := HK1.out; omega⟩, by repeat (first | exact Drawn0.refl _ | apply Drawn0.step)⟩
      (rw [if_neg c6] at H; exact absurd H (by simp))
     (rw [if_neg c5] at H; exact absurd H (by simp))
    ·rw [if_neg c4] at H; have c4b0 : decide (x5_1 < (l0.length : Int)) = false := decide_eq_false c4; clear c4; obtain rfl := Option.some.inj H; go_wp2
     repeat (go_quiet (fail); try go_wp2)
     go_ret; exact ⟨by first | rfl | (simp; done) | (simp [*]; done), by repeat (first | exact Drawn0.refl _ | apply Drawn0.step)⟩
 ·rw [if_neg c3] at H; have c3b0 : ((l0.length : Int) == (l1.length : Int)) = false := beq_eq_false_iff_ne.mpr c3; have c3b1 : ((l0.length : Int) != (l1.length : Int)) = true := bne_iff_ne.mpr c3; have c3b2 : (l0.length == l1.length) = false := by first | simpa using c3 | (simp at c3 ⊢; omega)
  obtain rfl := Option.some.inj H; go_enter Try.func16, Try.ntmps16; go_wp2
  repeat (go_quiet (fail); try go_wp2)
  go_ret; exact ⟨by first | rfl | (simp; done) | (simp [*]; done), by repeat (first | exact Drawn0.refl _ | apply Drawn0.step)⟩
end Go.Proofs.Ytjffojmpfdoodaa.X
