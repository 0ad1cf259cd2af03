-- Shared by this seat's claims: the words, what the printer printed, and the given functions' own texts, packed by wip/pack.py.
import Derived.Test.Ytbnaecdeocbkpaaqfb2
import Derived.ChangeKeysEq
import Derived.Lib.Hide
import Derived.LoopIn
import Derived.LoopNIn
import Derived.OrdersIn
import Derived.Outline
import Derived.RangeFuncBound
import Derived.RangeFuncCalls
import Derived.RangeFuncLeaves
import Derived.Shelf.Abstract
import Derived.TacticsInMore
namespace Go.Proofs.Ytbnaecdeocbkpaa.X
open Go.RowKit Go.Proofs.YtbnaecdeocbkpaaW.PrintWords Go.Proofs.YtbnaecdeocbkpaaW.PrintLast Go.Proofs.YtbnaecdeocbkpaaW.PrintMore
attribute [local go_sem] cell_twice max2_int min2_int max_two min_two max_three min_three max_four min_four
set_option linter.unusedVariables false
set_option linter.unusedSimpArgs false
--import Derived.ChangeKeysEq
--import Derived.Lib.Hide
--import Derived.LoopIn
--import Derived.LoopNIn
--import Derived.Maps.AppendAt
--import Derived.OrdersIn
--import Derived.Outline
--import Derived.OwnWalkIn
--import Derived.RangeFuncBound
--import Derived.RangeFuncBox
--import Derived.RangeFuncCalls
--import Derived.RangeFuncLeaves
--import Derived.RangeFuncNested
--import Derived.Shelf.Abstract
--import Derived.TacticsInMore
--import Derived.Test.YtbnaecdeocbkpaaArr
--import Derived.Test.YtbnaecdeocbkpaaFlat
--import Derived.Test.YtbnaecdeocbkpaaRng
--import Derived.Test.YtbnaecdeocbkpaaX1
--import Derived.Test.YtbnaecdeocbkpaaX13
section
open Go.Shelf Go.Proofs.Ytbnaecdeocbkpaa.Rng
attribute [local go_sem] Oper.semAt_some
attribute [local go_sem high] eqA26
def keyB (q : S26) (known : Int) (f : S28) : Bool := f.f0.f0 == q.f0 && (f.f0.f1 == q.f1 && f.f0.f2 == q.f2) && decide (f.f3 ≤ known)
theorem ofL_take (zs : List S28) (q : S26) (known : Int) (k : Nat) (hk : k < zs.length) : ofL (zs.take (k + 1)) q known = ofL (zs.take k) q known ++ (if keyB q known zs[k] = true then [zs[k]] else []) := by
  unfold ofL
  rw [List.take_add_one, List.getElem?_eq_getElem hk, List.filter_append]
  congr 1
  show List.filter (keyB q known) [zs[k]] = _
  rw [List.filter_cons, List.filter_nil]
theorem ofL_pre (zs : List S28) (q : S26) (known : Int) (k : Nat) : ofL (zs.take k) q known <+: ofL zs q known := (List.take_prefix k zs).filter _
def enc28 (x : S28) : List Value := [.int .i64 x.f0.f0, .int .i64 x.f0.f1, .int .i64 x.f0.f2, .int .i64 x.f1, .int .i64 x.f2.f0, .int .i64 x.f2.f1, .int .i64 x.f3, .int .i64 x.f4]
def enc28A (x : S28) : Array Value := #[.agg #[.int .i64 x.f0.f0, .int .i64 x.f0.f1, .int .i64 x.f0.f2, .int .i64 x.f1, .int .i64 x.f2.f0, .int .i64 x.f2.f1, .int .i64 x.f3, .int .i64 x.f4]]
set_option maxRecDepth 100000 in
set_option maxHeartbeats 8000000 in
theorem of1_in (n : Nat) (hn : 1 ≤ n) (l Bl Bk Bt : Nat) (S : Nat → Prop) (A : Option Addr) (c : Nat) (zs : List S28) (q : S26) (known : Int) (J Jx : List S28 → World → Prop)
    (hJ : ∀ s W o, J s W → J s (W.alloc o)) (w0 : World) (hS : ∀ k, k < w0.heap.size → S k) (hz : Kd.C k28 w0 A zs.length zs) (hc : zs.length ≤ c)
    (hY : ∀ pre x W, J pre W → pre.length < zs.length → YieldAt Fence.wide (n - 1) Try.prog l (enc28A x) W fun e W' =>
      (e = .returned (.bool true) ∧ J (pre ++ [x]) W' ∧ Keep S W W') ∨ (e = .returned (.bool false) ∧ Jx (pre ++ [x]) W'))
    (W : World) (hb0 : Below w0.heap.size w0 W) (hBl : W.heap[Bl]? = some (.cells #[.slice A zs.length c] 33 (0, 0))) (hBk : W.heap[Bk]? = some (.cells #[.int .i64 q.f0, .int .i64 q.f1, .int .i64 q.f2] 26 (0, 0))) (hBt : W.heap[Bt]? = some (.cells #[.int .i64 known] 3 (0, 0)))
    (sl : S Bl) (sk : S Bk) (st : S Bt) (h0 : J [] W) :
    CallsIn Fence.wide n Try.prog 52 #[.func (.yield l) #[] #[], .pointer (some ⟨Bl, 0, none⟩), .pointer (some ⟨Bk, 0, none⟩), .pointer (some ⟨Bt, 0, none⟩)] W fun e W' => (∃ v, e = .returned v) ∧
      ((∃ ys, ys = ofL zs q known ∧ J ys W') ∨ (∃ pre, pre <+: ofL zs q known ∧ Jx pre W')) := by
  have hmax := hz.2.1
  have hu28 := Try.underlying28
  have hu26 := Try.underlying26
  have HL := Lib.hid hBl
  have HK := Lib.hid hBk
  have HT := Lib.hid hBt
  have HZ := Lib.hid hz
  have HB0 := Lib.hid hb0
  have HS0 := Lib.hid hS
  have cl0 : W.cell? ⟨Bl, 0, none⟩ = some (.slice A zs.length c) := blk_cell hBl 0
  clear hBl hBk hBt hz hb0 hS
  refine callsIn_of_wp Try.func52 rfl trivial ?_ rfl
  simp only [Try.ntmps52, List.size_toArray, List.length_cons, List.length_nil, Nat.reduceAdd, Nat.reduceSub, Array.replicate_succ, Array.replicate_zero, List.push_toArray, List.append_toArray, List.nil_append, List.cons_append]
  gi_wp2
  clear cl0
  gi_loopw [9] (fun i wr => ∃ k : Nat, k ≤ zs.length ∧ i = .int .i64 k ∧ Aside0 (J (ofL (zs.take k) q known) wr) ∧ Aside0 (Keep S W wr)) (fun i _ => zs.length - (intOf i).toNat)
  case atStart => exact ⟨0, Nat.zero_le _, rfl, ⟨h0⟩, ⟨Keep.refl _ _⟩⟩
  case round =>
    obtain ⟨k, hk, rfl, HJ, HW⟩ := hrel
    by_cases hlt : k < zs.length
    · have hw1 : IntKind.i64.wrap ((k : Int) + 1) = (k : Int) + 1 := (i64_w _).trans (by unfold wrap64; omega)
      have hkz : (k : Int) < (zs.length : Int) := by omega
      have HWB := Aside0.mk (HB0.out.trans (HW.out.below HB0.out.size HS0.out))
      obtain ⟨ad, e, hx0, hx1, hx2, hx3, hx4, hx5, hx6, hx7⟩ := at_T28 (Kd.C_below HZ.out HWB.out) (k : Int) (by omega) hkz
      have hr : rd_T28 zs (k : Int) = zs[k] := by simp [rd_T28, List.getD_eq_getElem?_getD, List.getElem?_eq_getElem hlt]
      have HTK := Lib.hid (ofL_take zs q known k hlt)
      obtain ⟨x, hx⟩ : ∃ x, zs[k] = x := ⟨_, rfl⟩
      rw [hr, hx] at hx0 hx1 hx2 hx3 hx4 hx5 hx6 hx7
      rw [Int.toNat_natCast] at hx0 hx1 hx2 hx3 hx4 hx5 hx6 hx7
      subst e
      have hBk' := HW.out.heap HK.out sk
      have hBt' := HW.out.heap HT.out st
      have ck0 : wr.cell? ⟨Bk, 0, none⟩ = some (.int .i64 q.f0) := blk_cell hBk' 0
      have ck1 : wr.cell? ⟨Bk, 1, none⟩ = some (.int .i64 q.f1) := blk_cell hBk' 1
      have ck2 : wr.cell? ⟨Bk, 2, none⟩ = some (.int .i64 q.f2) := blk_cell hBk' 2
      have ct0 : wr.cell? ⟨Bt, 0, none⟩ = some (.int .i64 known) := blk_cell hBt' 0
      have lk := blk_lt hBk'
      have lt := blk_lt hBt'
      have la := World.block_lt_of_cell? wr _ hx0
      clear hBk' hBt' hr
      obtain ⟨b, hb⟩ : ∃ b, (x.f0.f0 == q.f0 && (x.f0.f1 == q.f1 && x.f0.f2 == q.f2)) = b := ⟨_, rfl⟩
      cases b with
      | false =>
        have HKB := Lib.hid (show keyB q known x = false by simp only [keyB, hb, Bool.false_and])
        gi_wp2
        refine ⟨fun f hf => (by cases hf), ?_⟩
        gi_wp2
        exact ⟨⟨k + 1, by omega, by simp, ⟨by rw [HTK.out, hx, HKB.out, if_neg (by decide), List.append_nil]; exact hJ _ _ _ HJ.out⟩, ⟨HW.out.alloc _⟩⟩, by simp [intOf]; omega⟩
      | true =>
        obtain ⟨b2, hb2⟩ : ∃ b2, decide (x.f3 ≤ known) = b2 := ⟨_, rfl⟩
        cases b2 with
        | false =>
          have HKB := Lib.hid (show keyB q known x = false by simp only [keyB, hb, hb2, Bool.and_false])
          gi_wp2
          refine ⟨fun f hf => (by cases hf), ?_⟩
          gi_wp2
          exact ⟨⟨k + 1, by omega, by simp, ⟨by rw [HTK.out, hx, HKB.out, if_neg (by decide), List.append_nil]; exact hJ _ _ _ HJ.out⟩, ⟨HW.out.alloc _⟩⟩, by simp [intOf]; omega⟩
        | true =>
          have HKB := Lib.hid (show keyB q known x = true by simp only [keyB, hb, hb2, Bool.and_true])
          have hlen : (ofL (zs.take k) q known).length < zs.length := by
            have h1 := List.length_filter_le (fun f : S28 => f.f0.f0 == q.f0 && (f.f0.f1 == q.f1 && f.f0.f2 == q.f2) && decide (f.f3 ≤ known)) (zs.take k)
            rw [List.length_take] at h1
            unfold ofL
            omega
          obtain ⟨fn, tmps, assign, body, hyl, hR⟩ := hY (ofL (zs.take k) q known) x (wr.alloc (.cells #[.int .i64 x.f0.f0, .int .i64 x.f0.f1, .int .i64 x.f0.f2, .int .i64 x.f1, .int .i64 x.f2.f0, .int .i64 x.f2.f1, .int .i64 x.f3, .int .i64 x.f4] 28)) (hJ _ _ _ HJ.out) hlen
          dsimp only [enc28A] at hyl
          gi_wp2
          refine hR.mono ?_
          rintro e W3 (⟨rfl, hJ3, hk3⟩ | ⟨rfl, hJx3⟩)
          · have HJ3 := Aside0.mk hJ3
            have HK3 := Aside0.mk ((HW.out.alloc _).trans hk3)
            clear hJ3 hk3
            gi_wp2
            exact ⟨⟨k + 1, by omega, by simp, ⟨by rw [HTK.out, hx, HKB.out, if_pos rfl]; exact HJ3.out⟩, ⟨HK3.out⟩⟩, by simp [intOf]; omega⟩
          · have HJ3 := Aside0.mk hJx3
            clear hJx3
            gi_wp2
            refine bodyPost_ret (results_none rfl _ _ _) rfl ?_
            exact ⟨⟨_, rfl⟩, .inr ⟨_, by have h1 := ofL_pre zs q known (k + 1); rw [HTK.out, hx, HKB.out, if_pos rfl] at h1; exact h1, HJ3.out⟩⟩
    · obtain rfl : k = zs.length := by omega
      gi_wp2
      go_end0
      exact ⟨⟨_, rfl⟩, .inl ⟨_, rfl, by have := HJ.out; rwa [List.take_length] at this⟩⟩
end
section
open Go.Shelf Go.Proofs.Ytbnaecdeocbkpaa.Rng
attribute [local go_sem] Oper.semAt_some
set_option maxHeartbeats 1000000 in
theorem of_in (F : Fence) (n : Nat) (h51 : F.fn 51) (hro : F.round = none) (A : Option Addr) (len c : Nat) (q : S26) (known : Int) (w : World) :
    CallsIn F n Try.prog 51 #[.slice A len c, .agg #[.int .i64 q.f0, .int .i64 q.f1, .int .i64 q.f2], .int .i64 known] w fun e w' => e = .returned (.func (.func 52) #[] #[.pointer (some ⟨w.heap.size, 0, none⟩), .pointer (some ⟨w.heap.size + 1, 0, none⟩), .pointer (some ⟨w.heap.size + 1 + 1, 0, none⟩)]) ∧ w' = ((w.alloc (.cells #[.slice A len c] 33)).alloc (.cells #[.int .i64 q.f0, .int .i64 q.f1, .int .i64 q.f2] 26)).alloc (.cells #[.int .i64 known] 3) := by
  refine callsIn_of_wp Try.func51 rfl h51 ?_ hro
  simp only [Try.ntmps51, List.size_toArray, List.length_cons, List.length_nil, Nat.reduceAdd, Nat.reduceSub, Array.replicate_succ, Array.replicate_zero, List.push_toArray, List.append_toArray, List.nil_append, List.cons_append]
  gi_wp2
  go_ret
  exact ⟨rfl, rfl⟩
theorem of_stops (n : Nat) (hn : 1 ≤ n) (Bl Bk Bt : Nat) (S : Nat → Prop) (A : Option Addr) (c : Nat) (zs : List S28) (q : S26) (known : Int) (w0 w : World) (hbl : Bl < w.heap.size) (hbk : Bk < w.heap.size) (hbt : Bt < w.heap.size) (hb : Below w0.heap.size w0 w) (hS : ∀ k, k < w0.heap.size → S k) (sl : S Bl) (sk : S Bk) (st : S Bt)
    (hBl : w.heap[Bl]? = some (.cells #[.slice A zs.length c] 33 (0, 0))) (hBk : w.heap[Bk]? = some (.cells #[.int .i64 q.f0, .int .i64 q.f1, .int .i64 q.f2] 26 (0, 0))) (hBt : w.heap[Bt]? = some (.cells #[.int .i64 known] 3 (0, 0))) (hz : Kd.C k28 w0 A zs.length zs) (hc : zs.length ≤ c) :
    SeqStopsK Fence.wide n Try.prog 52 #[.pointer (some ⟨Bl, 0, none⟩), .pointer (some ⟨Bk, 0, none⟩), .pointer (some ⟨Bt, 0, none⟩)] enc28A (Keep S) (fun ys => ys = ofL zs q known) (fun pre => pre <+: ofL zs q known) zs.length w := fun l J Jx W hW hJ _ hY h0 =>
  of1_in n hn l Bl Bk Bt S A c zs q known J Jx (fun s W o hs => hJ s W _ none hs (World.grownBy_alloc W o none) (fun r e => by cases e)) w0 hS hz hc hY W (hb.trans ⟨hW.os, hW.tape, hW.output, hW.size, fun k hk => hW.block k (Nat.lt_of_lt_of_le hk hb.size)⟩) ((hW.block _ hbl).trans hBl) ((hW.block _ hbk).trans hBk) ((hW.block _ hbt).trans hBt) sl sk st h0
end
section
/-! A region that draws its order, within a round: out of the walk that knows no fence. -/
def onlyN (Q : Exit → Act → World → Prop) : Exit → Act → World → Prop
  | .normal, a, w => Q .normal a w
  | _, _, _ => False
theorem onlyN_lets {Q : Exit → Act → World → Prop} : ¬ LetsOut (onlyN Q) := fun ⟨_, _, h⟩ => h
variable {P : Program} {o : Oper} {ops : Array Oper} {a : Act} {w : World} {Q : Exit → Act → World → Prop} {md : Region.Mode}
theorem rowsIn_of {n : Nat} {row : String} {args : Array Value} {R : Value → World → Prop} (l : Nat) (h : Rows P row args w R) : RowsIn (Fence.wide.inRound l) n P row args w R := fun c cs _ =>
  let ⟨v, w', r, s⟩ := h c cs
  ⟨v, w', r, stepsIn_wide.2 s⟩
theorem uponIn_of {n : Nat} (l : Nat) {K K' : Act → World → Prop} (hK : ∀ a w, K a w → K' a w) : ∀ r : Result Next, o.upon P a K (onlyN Q) r → o.uponIn (Fence.wide.inRound l) n P a K' Q r
  | .ok (.value v) w', h => hK _ _ h
  | .ok .skip w', h => hK _ _ h
  | .ok (.defer d) w', h => hK _ _ h
  | .ok (.enter f args) w', h => ⟨fun h => (by cases h), CallsIn.mono (CallsIn.inRound l (callsIn_wide.2 h)) fun e w'' he => by
      cases e with
      | returned v => exact hK _ _ he
      | panicked c => exact he.elim
      | outgrown => exact (onlyN_lets he).elim⟩
  | .ok (.row row args) w', h => ⟨fun h => (by cases h), RowsIn.mono (rowsIn_of l h) (fun v w'' he => hK _ _ he)⟩
  | .halt (.panic v) w', h => h.elim
theorem wpIn_of (n l : Nat) {K K' : Act → World → Prop} (hK : ∀ a w, K a w → K' a w) (hd : ∀ c, o.op ≠ .defer c) (h : o.wp P a w K (onlyN Q)) : o.wpIn (Fence.wide.inRound l) n P a w K' Q := by
  refine ⟨fun f _ => trivial, ?_⟩
  rw [Oper.semAt_plain _ _ _ hd]
  exact uponIn_of l hK _ h
def noDefer (ops : Array Oper) : Bool := ops.all fun o => match o.op with
  | .defer _ => false
  | _ => true
theorem noDefer_spec (h : noDefer ops = true) {i : Nat} (hi : ops[i]? = some o) : ∀ c, o.op ≠ .defer c := fun c hc => by
  have h1 := Array.all_eq_true'.1 h o (Array.mem_of_getElem? hi)
  simp [hc] at h1
theorem wpOpIn_of (n l i : Nat) {K K' : Act → World → Prop} (hK : ∀ a w, K a w → K' a w) (hd : noDefer ops = true) (h : wpOp P ops (onlyN Q) i K a w) : wpOpIn (Fence.wide.inRound l) n P ops Q i K' a w := by
  unfold wpOp at h
  unfold wpOpIn
  split
  · rename_i hn
    rw [hn] at h
    exact hK _ _ h
  · rename_i o' ho
    rw [ho] at h
    dsimp only at h
    split
    · rename_i hw
      rw [if_pos hw] at h
      rcases h with h | h
      · exact wpIn_of n l hK (noDefer_spec hd ho) h
      · exact (onlyN_lets h.2).elim
    · rename_i hw
      rw [if_neg hw] at h
      exact ⟨fun f _ => trivial, hK _ _ h⟩
theorem wpAnyIn_of (n l : Nat) (hd : noDefer ops = true) : ∀ (fuel : Nat) (listed : Array Bool) (a : Act) (w : World), wpAny P md ops (onlyN Q) fuel listed a w → wpAnyIn (Fence.wide.inRound l) n P md ops Q fuel listed a w
  | 0, _, _, _, h => h
  | fuel + 1, listed, a, w, h => ⟨h.1, fun i hi => wpOpIn_of n l i (fun a w h => wpAnyIn_of n l hd fuel _ a w h) hd (h.2 i hi)⟩
theorem startIn_ {id k n l : Nat} {S : World → Prop} {ds : List Nat} (L : Array Bool) (hm : P.follows .mixedOrders = true) (hd : noDefer ops = true) (hn : ops.size = k) (hl : Array.replicate k false = L) (hS : S w.drew)
    (h : S w.drew → wpAnyLast P .any ops (onlyN Q) S ds k L a w.drew) : (Code.region id ops true).wpIn (Fence.wide.inRound l) n P Q a w := by
  subst hn
  subst hl
  exact wpIn_region_any hm (wpAnyIn_of n l hd _ _ _ _ (wpAny_of_last _ _ _ _ (h hS)))
end
section
open Go.Shelf
theorem compare_f (f0 f1 f2 f3 f4 f5 f6 f7 g0 g1 g2 g3 g4 g5 g6 g7 : Int) : ∃ t, facts_compare.f 4 f0 f1 f2 f3 f4 f5 f6 f7 g0 g1 g2 g3 g4 g5 g6 g7 = some t ∧ (decide (0 ≤ t) = !decide (f6 < g6 ∨ f6 = g6 ∧ f7 < g7)) := by
  unfold facts_compare.f cmp_Compare_int.f cmp_isNaN_int.f
  have hn : ∀ x : Int, (x != x) = false := fun x => by simp
  simp only [hn, Option.bind_some, Bool.false_eq_true, if_false]
  have hO : ∀ a b : Int, cmp_Or_int.f 4 [a, b] = some (if a = 0 then b else a) := fun a b => by
    unfold cmp_Or_int.f cmp_Or_int.l0 cmp_Or_int.l0 cmp_Or_int.l0
    have hw : wrap64 1 = 1 := by unfold wrap64; omega
    have hw2 : wrap64 2 = 2 := by unfold wrap64; omega
    by_cases ha : a = 0 <;> by_cases hb : b = 0 <;> simp [ha, hb, hw, hw2, rd]
  have hc : ∀ x y : Int, ∃ c : Int, (if x < y then some (-1 : Int) else if x > y then some 1 else some 0) = some c ∧ (x < y ∧ c = -1 ∨ x > y ∧ c = 1 ∨ x = y ∧ c = 0) := fun x y => by
    by_cases h1 : x < y
    · exact ⟨-1, by rw [if_pos h1], .inl ⟨h1, rfl⟩⟩
    · by_cases h2 : x > y
      · exact ⟨1, by rw [if_neg h1, if_pos h2], .inr (.inl ⟨h2, rfl⟩)⟩
      · exact ⟨0, by rw [if_neg h1, if_neg h2], .inr (.inr ⟨by omega, rfl⟩)⟩
  obtain ⟨c, hc1, hc2⟩ := hc f6 g6
  obtain ⟨d, hd1, hd2⟩ := hc f7 g7
  rw [hc1, hd1, Option.bind_some, Option.bind_some, hO, Option.bind_some]
  refine ⟨_, rfl, ?_⟩
  rw [← decide_not, decide_eq_decide]
  split <;> omega
def V48T8 : Bool × List (List Nat × List Nat) := (true, [([], []), ([0], [0]), ([1], [1]), ([2], [2]), ([3], [3]), ([4], [4]), ([4], [4]), ([6, 4], [4, 6]), ([7, 4], [4, 7]), ([5, 8, 4, 4], [4, 5, 8]), ([9, 4], [4, 9]), ([4, 10], [4, 10])])
def V48B8 : List Nat := [0, 1, 3, 7, 15, 31, 31, 95, 223, 511, 1023, 2047]
theorem V48tab8 : rtab .any (opsOf Try.f48 8) = V48T8 := by kernel_rfl
theorem V48bits8 : waitsOk V48T8.2 V48B8 = true := by kernel_rfl
set_option maxRecDepth 100000 in
set_option maxHeartbeats 8000000 in
theorem r8_none {ops : Array Oper} (hops : ops = opsOf Try.f48 8) {n l : Nat} {Q : Exit → Act → World → Prop} {w : World} {D : List Deferred} {gb gs g9 : Nat} {t : Int} {x0 x1 x2 x3 x4 x5 x6 x11 x12 x13 x14 x15 x16 x17 x18 x19 x20 x21 x22 x23 x24 x25 x26 x27 x28 x29 x30 x31 x32 x33 x34 x35 x36 x37 x38 x39 x40 x41 x42 x43 x44 x45 x46 x47 x48 x49 x50 x51 x52 x53 x54 x55 x56 x57 x58 x59 x60 x61 x62 : Value} (h0 : 0 ≤ t) (h1 : t < 1024) (hs : w.cell? ⟨gs, t.toNat, none⟩ = some (.bool false))
    (hQ : ∀ w', Below w.heap.size w w' → Q .normal { tmps := #[x0, x1, x2, x3, x4, x5, x6, .pointer (some ⟨gb, 0, none⟩), .pointer (some ⟨gs, 0, none⟩), .pointer (some ⟨g9, 0, none⟩), .int .i64 t, x11, x12, x13, x14, x15, x16, x17, x18, x19, x20, x21, x22, x23, x24, x25, x26, x27, x28, .int .i64 t, .pointer (some ⟨gs, t.toNat, none⟩), .bool false, .bool true, .bool true, undef, undef, undef, undef, undef, undef, .bool true, x41, x42, x43, x44, x45, x46, x47, x48, x49, x50, x51, x52, x53, x54, x55, x56, x57, x58, x59, x60, x61, x62], defers := D } w') :
    (Code.region 8 ops true).wpIn (Fence.wide.inRound l) n Try.prog Q { tmps := #[x0, x1, x2, x3, x4, x5, x6, .pointer (some ⟨gb, 0, none⟩), .pointer (some ⟨gs, 0, none⟩), .pointer (some ⟨g9, 0, none⟩), .int .i64 t, x11, x12, x13, x14, x15, x16, x17, x18, x19, x20, x21, x22, x23, x24, x25, x26, x27, x28, x29, x30, x31, x32, x33, x34, x35, x36, x37, x38, x39, x40, x41, x42, x43, x44, x45, x46, x47, x48, x49, x50, x51, x52, x53, x54, x55, x56, x57, x58, x59, x60, x61, x62], defers := D } w := by
  have hu28 := Try.underlying28
  replace h0 := eq_true h0
  replace h1 := eq_true h1
  have hnd : noDefer ops = true := by rw [hops]; kernel_rfl
  have hsz : ops.size = 12 := by rw [hops]; kernel_rfl
  have htab : rtab .any ops = V48T8 := by rw [hops]; exact V48tab8
  simp only [opsOf, opsIn, Try.f48, Option.bind_some, Option.getD_some, Nat.reduceBEq, Bool.false_eq_true, if_false, if_true] at hops
  subst hops
  refine startIn_ (k := 12) (S := fun w' => w'.cell? ⟨gs, t.toNat, none⟩ = some (.bool false)) (ds := []) #[false, false, false, false, false, false, false, false, false, false, false, false] (by kernel_rfl) hnd hsz rfl hs (fun hHeld => ?_)
  refine with_tabW htab V48bits8 (fun HT_ HW_ => ?_)
  clear htab hnd hsz
  have HB := Aside0.mk (show Below w.heap.size w w.drew from ⟨rfl, rfl, rfl, Nat.le_refl _, fun _ _ => rfl⟩)
  generalize w.drew = w1 at hHeld HB ⊢
  refine pure_ (i := 0) (N := some 29) (v := ?_) (a' := ?_) #[true, false, false, false, false, false, false, false, false, false, false, false] rfl rfl (any_of HT_.out (by kernel_rfl)) (fun _ _ _ h => h) (Or.inl ⟨by rfl, ?_⟩) ?_ ?_
  rotate_left
  · intro w'
    go_simp
    with_reducible rfl
  rotate_left
  · simp only [Act.put, List.setIfInBounds_toArray, List.set_cons_zero, List.set_cons_succ, i64_w, i32_w]
    rfl
  refine pure_ (i := 1) (N := some 30) (v := ?_) (a' := ?_) #[true, true, false, false, false, false, false, false, false, false, false, false] rfl rfl (any_of HT_.out (by kernel_rfl)) (fun _ _ _ h => h) (Or.inl ⟨by rfl, ?_⟩) ?_ ?_
  rotate_left
  · intro w'
    go_simp
    with_reducible rfl
  rotate_left
  · simp only [Act.put, List.setIfInBounds_toArray, List.set_cons_zero, List.set_cons_succ, i64_w, i32_w]
    rfl
  refine take_ (i := 2) (N := some 31) (v := ?_) (a' := ?_) #[true, true, true, false, false, false, false, false, false, false, false, false] rfl rfl (take_ofW HT_.out HW_.out (by kernel_rfl)) (fun _ _ _ h => h) (Or.inl ⟨by rfl, ?_⟩) hHeld ?_ ?_
  rotate_left
  · rintro w' s0
    go_simp
    with_reducible rfl
  rotate_left
  · simp only [Act.put, List.setIfInBounds_toArray, List.set_cons_zero, List.set_cons_succ, i64_w, i32_w]
    rfl
  refine pure_ (i := 3) (N := some 32) (v := ?_) (a' := ?_) #[true, true, true, true, false, false, false, false, false, false, false, false] rfl rfl (any_of HT_.out (by kernel_rfl)) (fun _ _ _ h => h) (Or.inl ⟨by rfl, ?_⟩) ?_ ?_
  rotate_left
  · intro w'
    go_simp
    with_reducible rfl
  rotate_left
  · simp only [Act.put, List.setIfInBounds_toArray, List.set_cons_zero, List.set_cons_succ, i64_w, i32_w]
    rfl
  refine pure_ (i := 4) (N := some 33) (v := ?_) (a' := ?_) #[true, true, true, true, true, false, false, false, false, false, false, false] rfl rfl (any_of HT_.out (by kernel_rfl)) (fun _ _ _ h => h) (Or.inl ⟨by rfl, ?_⟩) ?_ ?_
  rotate_left
  · intro w'
    go_simp
    with_reducible rfl
  rotate_left
  · simp only [Act.put, List.setIfInBounds_toArray, List.set_cons_zero, List.set_cons_succ, i64_w, i32_w]
    rfl
  refine pure_ (i := 5) (N := some 34) (v := undef) (a' := ?_) #[true, true, true, true, true, true, false, false, false, false, false, false] rfl rfl (any_of HT_.out (by kernel_rfl)) (fun _ _ _ h => h) (Or.inr ⟨by rfl, rfl⟩) ?_ ?_
  rotate_left
  · simp only [Act.put, List.setIfInBounds_toArray, List.set_cons_zero, List.set_cons_succ, i64_w, i32_w]
    rfl
  refine pure_ (i := 6) (N := some 35) (v := undef) (a' := ?_) #[true, true, true, true, true, true, true, false, false, false, false, false] rfl rfl (any_of HT_.out (by kernel_rfl)) (fun _ _ _ h => h) (Or.inr ⟨by rfl, rfl⟩) ?_ ?_
  rotate_left
  · simp only [Act.put, List.setIfInBounds_toArray, List.set_cons_zero, List.set_cons_succ, i64_w, i32_w]
    rfl
  refine pure_ (i := 7) (N := some 36) (v := undef) (a' := ?_) #[true, true, true, true, true, true, true, true, false, false, false, false] rfl rfl (any_of HT_.out (by kernel_rfl)) (fun _ _ _ h => h) (Or.inr ⟨by rfl, rfl⟩) ?_ ?_
  rotate_left
  · simp only [Act.put, List.setIfInBounds_toArray, List.set_cons_zero, List.set_cons_succ, i64_w, i32_w]
    rfl
  refine pure_ (i := 8) (N := some 37) (v := undef) (a' := ?_) #[true, true, true, true, true, true, true, true, true, false, false, false] rfl rfl (any_of HT_.out (by kernel_rfl)) (fun _ _ _ h => h) (Or.inr ⟨by rfl, rfl⟩) ?_ ?_
  rotate_left
  · simp only [Act.put, List.setIfInBounds_toArray, List.set_cons_zero, List.set_cons_succ, i64_w, i32_w]
    rfl
  refine pure_ (i := 9) (N := some 38) (v := undef) (a' := ?_) #[true, true, true, true, true, true, true, true, true, true, false, false] rfl rfl (any_of HT_.out (by kernel_rfl)) (fun _ _ _ h => h) (Or.inr ⟨by rfl, rfl⟩) ?_ ?_
  rotate_left
  · simp only [Act.put, List.setIfInBounds_toArray, List.set_cons_zero, List.set_cons_succ, i64_w, i32_w]
    rfl
  refine pure_ (i := 10) (N := some 39) (v := undef) (a' := ?_) #[true, true, true, true, true, true, true, true, true, true, true, false] rfl rfl (any_of HT_.out (by kernel_rfl)) (fun _ _ _ h => h) (Or.inr ⟨by rfl, rfl⟩) ?_ ?_
  rotate_left
  · simp only [Act.put, List.setIfInBounds_toArray, List.set_cons_zero, List.set_cons_succ, i64_w, i32_w]
    rfl
  refine pure_ (i := 11) (N := some 40) (v := ?_) (a' := ?_) #[true, true, true, true, true, true, true, true, true, true, true, true] rfl rfl (any_of HT_.out (by kernel_rfl)) (fun _ _ _ h => h) (Or.inl ⟨by rfl, ?_⟩) ?_ ?_
  rotate_left
  · intro w'
    go_simp
    with_reducible rfl
  rotate_left
  · simp only [Act.put, List.setIfInBounds_toArray, List.set_cons_zero, List.set_cons_succ, i64_w, i32_w]
    rfl
  refine done_ (done_of HT_.out (by kernel_rfl)) ?_
  exact hQ _ HB.out
set_option maxRecDepth 100000 in
set_option maxHeartbeats 8000000 in
theorem r8_some {ops : Array Oper} (hops : ops = opsOf Try.f48 8) {n l : Nat} {Q : Exit → Act → World → Prop} {w : World} {D : List Deferred} {gb gs g9 : Nat} {t : Int} {x0 x1 x2 x3 x4 x5 x6 x11 x12 x13 x14 x15 x16 x17 x18 x19 x20 x21 x22 x23 x24 x25 x26 x27 x28 x29 x30 x31 x32 x33 x34 x35 x36 x37 x38 x39 x40 x41 x42 x43 x44 x45 x46 x47 x48 x49 x50 x51 x52 x53 x54 x55 x56 x57 x58 x59 x60 x61 x62 : Value} (h0 : 0 ≤ t) (h1 : t < 1024) (f g : S28) (s0 : w.cell? ⟨gs, t.toNat, none⟩ = some (.bool true)) (s1 : w.cell? ⟨g9, 0, none⟩ = some (.int .i64 f.f0.f0)) (s2 : w.cell? ⟨g9, 1, none⟩ = some (.int .i64 f.f0.f1)) (s3 : w.cell? ⟨g9, 2, none⟩ = some (.int .i64 f.f0.f2)) (s4 : w.cell? ⟨g9, 3, none⟩ = some (.int .i64 f.f1)) (s5 : w.cell? ⟨g9, 4, none⟩ = some (.int .i64 f.f2.f0)) (s6 : w.cell? ⟨g9, 5, none⟩ = some (.int .i64 f.f2.f1)) (s7 : w.cell? ⟨g9, 6, none⟩ = some (.int .i64 f.f3)) (s8 : w.cell? ⟨g9, 7, none⟩ = some (.int .i64 f.f4)) (s9 : w.cell? ⟨gb, t.toNat * 8, none⟩ = some (.int .i64 g.f0.f0)) (s10 : w.cell? ⟨gb, t.toNat * 8 + 1, none⟩ = some (.int .i64 g.f0.f1)) (s11 : w.cell? ⟨gb, t.toNat * 8 + 2, none⟩ = some (.int .i64 g.f0.f2)) (s12 : w.cell? ⟨gb, t.toNat * 8 + 3, none⟩ = some (.int .i64 g.f1)) (s13 : w.cell? ⟨gb, t.toNat * 8 + 4, none⟩ = some (.int .i64 g.f2.f0)) (s14 : w.cell? ⟨gb, t.toNat * 8 + 5, none⟩ = some (.int .i64 g.f2.f1)) (s15 : w.cell? ⟨gb, t.toNat * 8 + 6, none⟩ = some (.int .i64 g.f3)) (s16 : w.cell? ⟨gb, t.toNat * 8 + 7, none⟩ = some (.int .i64 g.f4))
    (hQ : ∀ u w', Below w.heap.size w w' → Q .normal { tmps := #[x0, x1, x2, x3, x4, x5, x6, .pointer (some ⟨gb, 0, none⟩), .pointer (some ⟨gs, 0, none⟩), .pointer (some ⟨g9, 0, none⟩), .int .i64 t, x11, x12, x13, x14, x15, x16, x17, x18, x19, x20, x21, x22, x23, x24, x25, x26, x27, x28, .int .i64 t, .pointer (some ⟨gs, t.toNat, none⟩), .bool true, .bool false, .bool false, .agg #[.int .i64 f.f0.f0, .int .i64 f.f0.f1, .int .i64 f.f0.f2, .int .i64 f.f1, .int .i64 f.f2.f0, .int .i64 f.f2.f1, .int .i64 f.f3, .int .i64 f.f4], .int .i64 t, .pointer (some ⟨gb, t.toNat * 8, none⟩), .agg #[.int .i64 g.f0.f0, .int .i64 g.f0.f1, .int .i64 g.f0.f2, .int .i64 g.f1, .int .i64 g.f2.f0, .int .i64 g.f2.f1, .int .i64 g.f3, .int .i64 g.f4], .int .i64 u, .bool (!fbefore f g), .bool (!fbefore f g), x41, x42, x43, x44, x45, x46, x47, x48, x49, x50, x51, x52, x53, x54, x55, x56, x57, x58, x59, x60, x61, x62], defers := D } w') :
    (Code.region 8 ops true).wpIn (Fence.wide.inRound l) n Try.prog Q { tmps := #[x0, x1, x2, x3, x4, x5, x6, .pointer (some ⟨gb, 0, none⟩), .pointer (some ⟨gs, 0, none⟩), .pointer (some ⟨g9, 0, none⟩), .int .i64 t, x11, x12, x13, x14, x15, x16, x17, x18, x19, x20, x21, x22, x23, x24, x25, x26, x27, x28, x29, x30, x31, x32, x33, x34, x35, x36, x37, x38, x39, x40, x41, x42, x43, x44, x45, x46, x47, x48, x49, x50, x51, x52, x53, x54, x55, x56, x57, x58, x59, x60, x61, x62], defers := D } w := by
  have hu28 := Try.underlying28
  replace h0 := eq_true h0
  replace h1 := eq_true h1
  have hnd : noDefer ops = true := by rw [hops]; kernel_rfl
  have hsz : ops.size = 12 := by rw [hops]; kernel_rfl
  have htab : rtab .any ops = V48T8 := by rw [hops]; exact V48tab8
  simp only [opsOf, opsIn, Try.f48, Option.bind_some, Option.getD_some, Nat.reduceBEq, Bool.false_eq_true, if_false, if_true] at hops
  subst hops
  obtain ⟨u, hu, hb⟩ := compare_f f.f0.f0 f.f0.f1 f.f0.f2 f.f1 f.f2.f0 f.f2.f1 f.f3 f.f4 g.f0.f0 g.f0.f1 g.f0.f2 g.f1 g.f2.f0 g.f2.f1 g.f3 g.f4
  have HU := Aside0.mk hu
  have HBF := Aside0.mk (show decide (0 ≤ u) = !fbefore f g from hb)
  clear hu hb
  refine startIn_ (k := 12) (S := fun w' => w'.cell? ⟨gs, t.toNat, none⟩ = some (.bool true) ∧ w'.cell? ⟨g9, 0, none⟩ = some (.int .i64 f.f0.f0) ∧ w'.cell? ⟨g9, 1, none⟩ = some (.int .i64 f.f0.f1) ∧ w'.cell? ⟨g9, 2, none⟩ = some (.int .i64 f.f0.f2) ∧ w'.cell? ⟨g9, 3, none⟩ = some (.int .i64 f.f1) ∧ w'.cell? ⟨g9, 4, none⟩ = some (.int .i64 f.f2.f0) ∧ w'.cell? ⟨g9, 5, none⟩ = some (.int .i64 f.f2.f1) ∧ w'.cell? ⟨g9, 6, none⟩ = some (.int .i64 f.f3) ∧ w'.cell? ⟨g9, 7, none⟩ = some (.int .i64 f.f4) ∧ w'.cell? ⟨gb, t.toNat * 8, none⟩ = some (.int .i64 g.f0.f0) ∧ w'.cell? ⟨gb, t.toNat * 8 + 1, none⟩ = some (.int .i64 g.f0.f1) ∧ w'.cell? ⟨gb, t.toNat * 8 + 2, none⟩ = some (.int .i64 g.f0.f2) ∧ w'.cell? ⟨gb, t.toNat * 8 + 3, none⟩ = some (.int .i64 g.f1) ∧ w'.cell? ⟨gb, t.toNat * 8 + 4, none⟩ = some (.int .i64 g.f2.f0) ∧ w'.cell? ⟨gb, t.toNat * 8 + 5, none⟩ = some (.int .i64 g.f2.f1) ∧ w'.cell? ⟨gb, t.toNat * 8 + 6, none⟩ = some (.int .i64 g.f3) ∧ w'.cell? ⟨gb, t.toNat * 8 + 7, none⟩ = some (.int .i64 g.f4)) (ds := []) #[false, false, false, false, false, false, false, false, false, false, false, false] (by kernel_rfl) hnd hsz rfl ⟨s0, s1, s2, s3, s4, s5, s6, s7, s8, s9, s10, s11, s12, s13, s14, s15, s16⟩ (fun hHeld => ?_)
  refine with_tabW htab V48bits8 (fun HT_ HW_ => ?_)
  clear htab hnd hsz
  have HB := Aside0.mk (show Below w.heap.size w w.drew from ⟨rfl, rfl, rfl, Nat.le_refl _, fun _ _ => rfl⟩)
  generalize w.drew = w1 at hHeld HB ⊢
  refine pure_ (i := 0) (N := some 29) (v := ?_) (a' := ?_) #[true, false, false, false, false, false, false, false, false, false, false, false] rfl rfl (any_of HT_.out (by kernel_rfl)) (fun _ _ _ h => h) (Or.inl ⟨by rfl, ?_⟩) ?_ ?_
  rotate_left
  · intro w'
    go_simp
    with_reducible rfl
  rotate_left
  · simp only [Act.put, List.setIfInBounds_toArray, List.set_cons_zero, List.set_cons_succ, i64_w, i32_w]
    rfl
  refine pure_ (i := 1) (N := some 30) (v := ?_) (a' := ?_) #[true, true, false, false, false, false, false, false, false, false, false, false] rfl rfl (any_of HT_.out (by kernel_rfl)) (fun _ _ _ h => h) (Or.inl ⟨by rfl, ?_⟩) ?_ ?_
  rotate_left
  · intro w'
    go_simp
    with_reducible rfl
  rotate_left
  · simp only [Act.put, List.setIfInBounds_toArray, List.set_cons_zero, List.set_cons_succ, i64_w, i32_w]
    rfl
  refine take_ (i := 2) (N := some 31) (v := ?_) (a' := ?_) #[true, true, true, false, false, false, false, false, false, false, false, false] rfl rfl (take_ofW HT_.out HW_.out (by kernel_rfl)) (fun _ _ _ h => h) (Or.inl ⟨by rfl, ?_⟩) hHeld ?_ ?_
  rotate_left
  · rintro w' ⟨s0, s1, s2, s3, s4, s5, s6, s7, s8, s9, s10, s11, s12, s13, s14, s15, s16⟩
    go_simp
    with_reducible rfl
  rotate_left
  · simp only [Act.put, List.setIfInBounds_toArray, List.set_cons_zero, List.set_cons_succ, i64_w, i32_w]
    rfl
  refine pure_ (i := 3) (N := some 32) (v := ?_) (a' := ?_) #[true, true, true, true, false, false, false, false, false, false, false, false] rfl rfl (any_of HT_.out (by kernel_rfl)) (fun _ _ _ h => h) (Or.inl ⟨by rfl, ?_⟩) ?_ ?_
  rotate_left
  · intro w'
    go_simp
    with_reducible rfl
  rotate_left
  · simp only [Act.put, List.setIfInBounds_toArray, List.set_cons_zero, List.set_cons_succ, i64_w, i32_w]
    rfl
  refine pure_ (i := 4) (N := some 33) (v := ?_) (a' := ?_) #[true, true, true, true, true, false, false, false, false, false, false, false] rfl rfl (any_of HT_.out (by kernel_rfl)) (fun _ _ _ h => h) (Or.inl ⟨by rfl, ?_⟩) ?_ ?_
  rotate_left
  · intro w'
    go_simp
    with_reducible rfl
  rotate_left
  · simp only [Act.put, List.setIfInBounds_toArray, List.set_cons_zero, List.set_cons_succ, i64_w, i32_w]
    rfl
  refine pure_ (i := 6) (N := some 35) (v := ?_) (a' := ?_) #[true, true, true, true, true, false, true, false, false, false, false, false] rfl rfl (any_of HT_.out (by kernel_rfl)) (fun _ _ _ h => h) (Or.inl ⟨by rfl, ?_⟩) ?_ ?_
  rotate_left
  · intro w'
    go_simp
    with_reducible rfl
  rotate_left
  · simp only [Act.put, List.setIfInBounds_toArray, List.set_cons_zero, List.set_cons_succ, i64_w, i32_w]
    rfl
  refine pure_ (i := 7) (N := some 36) (v := ?_) (a' := ?_) #[true, true, true, true, true, false, true, true, false, false, false, false] rfl rfl (any_of HT_.out (by kernel_rfl)) (fun _ _ _ h => h) (Or.inl ⟨by rfl, ?_⟩) ?_ ?_
  rotate_left
  · intro w'
    go_simp
    with_reducible rfl
  rotate_left
  · simp only [Act.put, List.setIfInBounds_toArray, List.set_cons_zero, List.set_cons_succ, i64_w, i32_w]
    rfl
  refine take_ (i := 5) (N := some 34) (v := ?_) (a' := ?_) #[true, true, true, true, true, true, true, true, false, false, false, false] rfl rfl (take_ofW HT_.out HW_.out (by kernel_rfl)) (fun _ _ _ h => h) (Or.inl ⟨by rfl, ?_⟩) hHeld ?_ ?_
  rotate_left
  · rintro w' ⟨s0, s1, s2, s3, s4, s5, s6, s7, s8, s9, s10, s11, s12, s13, s14, s15, s16⟩
    go_simp
    with_reducible rfl
  rotate_left
  · simp only [Act.put, List.setIfInBounds_toArray, List.set_cons_zero, List.set_cons_succ, i64_w, i32_w]
    rfl
  refine take_ (i := 8) (N := some 37) (v := ?_) (a' := ?_) #[true, true, true, true, true, true, true, true, true, false, false, false] rfl rfl (take_ofW HT_.out HW_.out (by kernel_rfl)) (fun _ _ _ h => h) (Or.inl ⟨by rfl, ?_⟩) hHeld ?_ ?_
  rotate_left
  · rintro w' ⟨s0, s1, s2, s3, s4, s5, s6, s7, s8, s9, s10, s11, s12, s13, s14, s15, s16⟩
    go_simp
    with_reducible rfl
  rotate_left
  · simp only [Act.put, List.setIfInBounds_toArray, List.set_cons_zero, List.set_cons_succ, i64_w, i32_w]
    rfl
  refine one_ (i := 9) (N := some 38) #[true, true, true, true, true, true, true, true, true, true, false, false] rfl rfl (one_of HT_.out (by kernel_rfl)) (by decide) (fun K hK => ?_)
  refine goes_ Try.func36 (by kernel_rfl) rfl #[.agg #[.int .i64 f.f0.f0, .int .i64 f.f0.f1, .int .i64 f.f0.f2, .int .i64 f.f1, .int .i64 f.f2.f0, .int .i64 f.f2.f1, .int .i64 f.f3, .int .i64 f.f4], .agg #[.int .i64 g.f0.f0, .int .i64 g.f0.f1, .int .i64 g.f0.f2, .int .i64 g.f1, .int .i64 g.f2.f0, .int .i64 g.f2.f1, .int .i64 g.f3, .int .i64 g.f4]] (by rfl) rfl rfl (by (try simp only [List.map_toArray, List.map_cons, List.map_nil]); first | done | rfl) ?_
  with_reducible refine (facts_compare.calls 4 (f.f0.f0) (f.f0.f1) (f.f0.f2) (f.f1) (f.f2.f0) (f.f2.f1) (f.f3) (f.f4) (g.f0.f0) (g.f0.f1) (g.f0.f2) (g.f1) (g.f2.f0) (g.f2.f1) (g.f3) (g.f4) u _ HU.out).mono ?_
  rintro e w2 ⟨rfl, hb⟩
  refine ⟨_, rfl, ?_⟩
  obtain ⟨q0, q1, q2, q3, q4, q5, q6, q7, q8, q9, q10, q11, q12, q13, q14, q15, q16⟩ := hHeld
  refine hK.out _ _ ⟨(hb.cell (World.block_lt_of_cell? w1 _ q0)).trans q0, (hb.cell (World.block_lt_of_cell? w1 _ q1)).trans q1, (hb.cell (World.block_lt_of_cell? w1 _ q2)).trans q2, (hb.cell (World.block_lt_of_cell? w1 _ q3)).trans q3, (hb.cell (World.block_lt_of_cell? w1 _ q4)).trans q4, (hb.cell (World.block_lt_of_cell? w1 _ q5)).trans q5, (hb.cell (World.block_lt_of_cell? w1 _ q6)).trans q6, (hb.cell (World.block_lt_of_cell? w1 _ q7)).trans q7, (hb.cell (World.block_lt_of_cell? w1 _ q8)).trans q8, (hb.cell (World.block_lt_of_cell? w1 _ q9)).trans q9, (hb.cell (World.block_lt_of_cell? w1 _ q10)).trans q10, (hb.cell (World.block_lt_of_cell? w1 _ q11)).trans q11, (hb.cell (World.block_lt_of_cell? w1 _ q12)).trans q12, (hb.cell (World.block_lt_of_cell? w1 _ q13)).trans q13, (hb.cell (World.block_lt_of_cell? w1 _ q14)).trans q14, (hb.cell (World.block_lt_of_cell? w1 _ q15)).trans q15, (hb.cell (World.block_lt_of_cell? w1 _ q16)).trans q16⟩ (fun hHeld => ?_)
  have HB2 := Aside0.mk (below_step HB.out hb)
  clear hK K
  refine norm_ (a' := ?_) ?_ ?_
  rotate_left
  · show Act.put _ (some 38) _ = _
    simp only [Act.put, List.setIfInBounds_toArray, List.set_cons_zero, List.set_cons_succ, i64_w, i32_w]
    rfl
  refine pure_ (i := 10) (N := some 39) (v := ?_) (a' := ?_) #[true, true, true, true, true, true, true, true, true, true, true, false] rfl rfl (any_of HT_.out (by kernel_rfl)) (fun _ _ _ h => h) (Or.inl ⟨by rfl, ?_⟩) ?_ ?_
  rotate_left
  · intro w'
    go_simp
    with_reducible rfl
  rotate_left
  · simp only [Act.put, List.setIfInBounds_toArray, List.set_cons_zero, List.set_cons_succ, i64_w, i32_w]
    rfl
  refine pure_ (i := 11) (N := some 40) (v := ?_) (a' := ?_) #[true, true, true, true, true, true, true, true, true, true, true, true] rfl rfl (any_of HT_.out (by kernel_rfl)) (fun _ _ _ h => h) (Or.inl ⟨by rfl, ?_⟩) ?_ ?_
  rotate_left
  · intro w'
    go_simp
    with_reducible rfl
  rotate_left
  · simp only [Act.put, List.setIfInBounds_toArray, List.set_cons_zero, List.set_cons_succ, i64_w, i32_w]
    rfl
  refine done_ (done_of HT_.out (by kernel_rfl)) ?_
  rw [HBF.out]
  exact hQ u _ HB2.out
end
section
open Go.Shelf Go.Proofs.Ytbnaecdeocbkpaa.Rng
attribute [local go_sem] Oper.semAt_some
theorem alloc_zero {t : TypeId} {n : Nat} {v : Value} (h : (Try.prog.info? t).map (fun i => (i.zero, i.size)) = some (some (.agg (Array.replicate n v)), n)) {W : World} {o : Oper} {ρ : Operand → Value} (ho : o.op = .alloc t) :
    (execOp ρ o).run Try.prog W = .ok (.value (.pointer (some ⟨W.heap.size, 0, none⟩))) (W.alloc (.cells (Array.replicate n v) t (0, 0))) := by
  obtain ⟨i, hi, hh⟩ := Option.map_eq_some_iff.1 h
  simp only [Prod.mk.injEq] at hh
  have := run_alloc_t (W := W) (ρ := ρ) ho hi hh.1
  exact this
theorem alloc_eventIn {F : Fence} {k : Nat} {t : TypeId} {n m : Nat} (hi : (Try.prog.info? t).map (fun i => (i.zero.map (·.cells.size), i.size)) = some (some n, m)) {ops : Array Oper} {Q : Exit → Act → World → Prop} {rest : List Oper} {o : Oper} {a : Act} {W : World} (hgd : o.guard = none) (ho : o.op = .alloc t)
    (h : ∀ g, g = W.heap.size → ∀ cs : Array Value, cs.size = n → ∀ w1, w1.heap[g]? = some (.cells cs t (0, 0)) → Below W.heap.size W w1 → w1.heap.size = g + 1 → wpListIn F k Try.prog ops Q rest (a.put o.dst (.pointer (some ⟨g, 0, none⟩))) w1) : wpListIn F k Try.prog ops Q (o :: rest) a W := by
  obtain ⟨cs, hs, hrun⟩ := alloc_size (W := W) (ρ := a.eval) hi ho
  refine wpListIn_plain hgd fun K hK => ?_
  refine ⟨fun f hf => ?_, ?_⟩
  · simp [Oper.about, ho] at hf
  · rw [Oper.semAt_plain F _ _ (by rw [ho]; intro c hc; cases hc), hrun]
    exact hK _ _ (h _ rfl cs hs _ (blk_new W _) (below_alloc (Below.refl _ _) _) (by simp))
theorem alloc_zeroIn {F : Fence} {k : Nat} {t : TypeId} {n : Nat} {v : Value} (hi : (Try.prog.info? t).map (fun i => (i.zero, i.size)) = some (some (.agg (Array.replicate n v)), n)) {ops : Array Oper} {Q : Exit → Act → World → Prop} {rest : List Oper} {o : Oper} {a : Act} {W : World} (hgd : o.guard = none) (ho : o.op = .alloc t)
    (h : ∀ g, g = W.heap.size → ∀ w1, w1.heap[g]? = some (.cells (Array.replicate n v) t (0, 0)) → Below W.heap.size W w1 → w1.heap.size = g + 1 → wpListIn F k Try.prog ops Q rest (a.put o.dst (.pointer (some ⟨g, 0, none⟩))) w1) : wpListIn F k Try.prog ops Q (o :: rest) a W := by
  have hrun := alloc_zero (W := W) (ρ := a.eval) hi ho
  refine wpListIn_plain hgd fun K hK => ?_
  refine ⟨fun f hf => ?_, ?_⟩
  · simp [Oper.about, ho] at hf
  · rw [Oper.semAt_plain F _ _ (by rw [ho]; intro c hc; cases hc), hrun]
    exact hK _ _ (h _ rfl _ (blk_new W _) (below_alloc (Below.refl _ _) _) (by simp))
def bRow (b : Nat → Option S28) : Array Value := ((List.range 1024).map fun t => Value.bool (b t).isSome).toArray
theorem bRow_size (b : Nat → Option S28) : (bRow b).size = 1024 := by simp [bRow]
theorem bRow_at (b : Nat → Option S28) {t : Nat} (h : t < 1024) : (bRow b)[t]? = some (.bool (b t).isSome) := by simp [bRow, h]
theorem bRow_none' (n : Nat) : Array.replicate n (Value.bool false) = ((List.range n).map fun t => Value.bool (none : Option S28).isSome).toArray := by
  refine Array.ext_getElem? fun i => ?_
  rw [Array.getElem?_replicate]
  by_cases h : i < n
  · simp [h]
  · simp [h]
theorem bRow_none : Array.replicate 1024 (Value.bool false) = bRow (fun _ => none) := bRow_none' 1024
/-- What is known of the best facts. -/
structure VSt (gb gs : Nat) (b : Nat → Option S28) (W : World) : Prop where
  best : ∃ cb : Array Value, W.heap[gb]? = some (.cells cb 96 (0, 0)) ∧ cb.size = 8192 ∧ ∀ t f, t < 1024 → b t = some f → ∀ j u, (enc28 f)[j]? = some u → cb[t * 8 + j]? = some u
  known : W.heap[gs]? = some (.cells (bRow b) 97 (0, 0))
theorem bRow_congr' (n : Nat) {b b' : Nat → Option S28} (h : ∀ t, t < n → b t = b' t) : ((List.range n).map fun t => Value.bool (b t).isSome).toArray = ((List.range n).map fun t => Value.bool (b' t).isSome).toArray := by
  rw [List.map_congr_left fun t ht => by rw [h t (List.mem_range.1 ht)]]
theorem bRow_congr {b b' : Nat → Option S28} (h : ∀ t, t < 1024 → b t = b' t) : bRow b = bRow b' := bRow_congr' 1024 h
theorem VSt.congr {gb gs : Nat} {b b' : Nat → Option S28} {W : World} (h : VSt gb gs b W) (hb : ∀ t, t < 1024 → b t = b' t) : VSt gb gs b' W := by
  obtain ⟨⟨cb, h1, h2, h3⟩, h4⟩ := h
  exact ⟨⟨cb, h1, h2, fun t f ht hf => h3 t f ht (by rw [hb t ht]; exact hf)⟩, by rw [← bRow_congr hb]; exact h4⟩
theorem VSt.keep {gb gs : Nat} {b : Nat → Option S28} {W W' : World} (h : VSt gb gs b W) (h1 : W'.heap[gb]? = W.heap[gb]?) (h2 : W'.heap[gs]? = W.heap[gs]?) : VSt gb gs b W' := by
  obtain ⟨⟨cb, h3, h4, h5⟩, h6⟩ := h
  exact ⟨⟨cb, h1.trans h3, h4, h5⟩, h2.trans h6⟩
theorem max2_mx (k k' : IntKind) (x y : Int) : Builtin.max2 (.int k x) (.int k' y) = pure (.int k (mx x y)) := max2_int k k' x y
theorem min2_mn (k k' : IntKind) (x y : Int) : Builtin.min2 (.int k x) (.int k' y) = pure (.int k (mn x y)) := min2_int k k' x y
theorem three_boxes' {w5 : World} (o1 o2 o3 : Obj) : (((w5.alloc o1).alloc o2).alloc o3).heap[w5.heap.size]? = some o1 ∧ (((w5.alloc o1).alloc o2).alloc o3).heap[w5.heap.size + 1]? = some o2 ∧ (((w5.alloc o1).alloc o2).alloc o3).heap[w5.heap.size + 1 + 1]? = some o3 ∧ (((w5.alloc o1).alloc o2).alloc o3).heap.size = w5.heap.size + 3 := by
  refine ⟨blk_alloc (blk_alloc (blk_new w5 o1) o2) o3, ?_, ?_, by simp⟩
  · have := blk_alloc (blk_new (w5.alloc o1) o2) o3
    rwa [World.size_alloc] at this
  · have := blk_new ((w5.alloc o1).alloc o2) o3
    rwa [World.size_alloc, World.size_alloc] at this
theorem cells_turn {W W' : World} {row : Option Nat} {B : Nat} {t : TypeId} {cs : Array Value} (h : W.heap[B]? = some (.cells cs t (0, 0))) (hg : W.grownBy W' row) (hr : ∀ r, row = some r → ∃ o : Obj, W.heap[r]? = some o ∧ o.isCells = false) : W'.heap[B]? = some (.cells cs t (0, 0)) :=
  (hg.block B (blk_lt h) (fun e => by
    obtain ⟨o, ho, hc⟩ := hr B e.symm
    rw [h] at ho
    cases ho
    cases hc)).trans h
theorem alloc_old {W : World} {k : Nat} (o : Obj) (h : k < W.heap.size) : (W.alloc o).heap[k]? = W.heap[k]? := by
  obtain ⟨x, hx⟩ : ∃ x, W.heap[k]? = some x := ⟨_, Array.getElem?_eq_getElem h⟩
  rw [hx]
  exact blk_alloc hx o
def bestOf (pre : List S28) (t : Nat) : Option S28 := pre.foldl (best1 (t : Int)) none
/-- Between two rounds. -/
def VInv (w : World) (M g6 gb gs : Nat) (c6 : Array Value) (pre : List S28) (W : World) : Prop :=
  VSt gb gs (bestOf pre) W ∧ W.heap[g6]? = some (.cells c6 91 (0, 0)) ∧ Below w.heap.size w W ∧ M ≤ W.heap.size
theorem VInv.own (w : World) (M g6 gb gs : Nat) (c6 : Array Value) (hM : w.heap.size ≤ M) : OwnFrom M (VInv w M g6 gb gs c6) := by
  rintro s X Y row ⟨⟨⟨cb, h1, h2, h3⟩, h4⟩, h5, h6, h7⟩ hg hr
  have hr' := fun r e => (hr r e).2
  exact ⟨⟨⟨cb, cells_turn h1 hg hr', h2, h3⟩, cells_turn h4 hg hr'⟩, cells_turn h5 hg hr', h6.grown hg (Nat.le_trans hM h7) (fun k e => Nat.le_trans hM (hr k e).1), Nat.le_trans h7 hg.size⟩
/-- Within the walk through a fact's terms. -/
structure VMid (w : World) (M g6 gb gs : Nat) (c6 : Array Value) (pre : List S28) (x : S28) (Bx : Nat) (W0 : World) (k : Int) (W : World) : Prop where
  vst : VSt gb gs (fun t => if (t : Int) < k then bestOf (pre ++ [x]) t else bestOf pre t) W
  row : W.heap[g6]? = some (.cells c6 91 (0, 0))
  below : Below w.heap.size w W
  size : M ≤ W.heap.size
  slot : W.heap[Bx]? = some (.cells #[.int .i64 x.f0.f0, .int .i64 x.f0.f1, .int .i64 x.f0.f2, .int .i64 x.f1, .int .i64 x.f2.f0, .int .i64 x.f2.f1, .int .i64 x.f3, .int .i64 x.f4] 28 (0, 0))
  keep : Keep (fun k => k < M ∧ k ≠ gb ∧ k ≠ gs) W0 W
  from_ : KeepsFrom M W0 W
theorem bestOf_snoc (pre : List S28) (x : S28) (t : Nat) : bestOf (pre ++ [x]) t = best1 (t : Int) (bestOf pre t) x := by
  unfold bestOf
  rw [List.foldl_append]
  rfl
theorem VMid.start {w : World} {M g6 gb gs : Nat} {c6 : Array Value} {pre : List S28} {x : S28} {Bx : Nat} {W : World} (h1 : VSt gb gs (bestOf pre) W) (h2 : W.heap[g6]? = some (.cells c6 91 (0, 0))) (h3 : Below w.heap.size w W) (h4 : M ≤ W.heap.size)
    (h5 : W.heap[Bx]? = some (.cells #[.int .i64 x.f0.f0, .int .i64 x.f0.f1, .int .i64 x.f0.f2, .int .i64 x.f1, .int .i64 x.f2.f0, .int .i64 x.f2.f1, .int .i64 x.f3, .int .i64 x.f4] 28 (0, 0))) : VMid w M g6 gb gs c6 pre x Bx W (mx 0 x.f2.f0) W := by
  refine ⟨h1.congr fun t ht => ?_, h2, h3, h4, h5, Keep.refl _ _, KeepsFrom.refl _ _⟩
  split
  · rename_i h
    rw [bestOf_snoc]
    unfold best1
    rw [if_neg]
    unfold mx at h
    split at h <;> omega
  · rfl
theorem VMid.step {w : World} {M g6 gb gs : Nat} {c6 : Array Value} {pre : List S28} {x : S28} {Bx : Nat} {W0 W W' : World} {k : Int} (h : VMid w M g6 gb gs c6 pre x Bx W0 k W) (hb : Below W.heap.size W W') : VMid w M g6 gb gs c6 pre x Bx W0 k W' := by
  obtain ⟨⟨⟨cb, h1, h2, h3⟩, h4⟩, h5, h6, h7, h8, h9, h10⟩ := h
  exact ⟨⟨⟨cb, blk_below h1 hb, h2, h3⟩, blk_below h4 hb⟩, blk_below h5 hb, below_step h6 hb, Nat.le_trans h7 hb.size, blk_below h8 hb, h9.trans (Keep.of_below hb),
    h10.trans ⟨hb.size, fun i o _ hi _ => (hb.block i (Array.getElem?_eq_some_iff.1 hi).1).trans hi⟩⟩
theorem VMid.cells {w : World} {M g6 gb gs : Nat} {c6 : Array Value} {pre : List S28} {x : S28} {Bx : Nat} {W0 W : World} {k : Int} (h : VMid w M g6 gb gs c6 pre x Bx W0 k W) (h1 : k < 1024) (h0 : 0 ≤ k) : ∀ j, j < 8 → ∃ o, W.cell? ⟨gb, k.toNat * 8 + j, none⟩ = some o ∧ W.frozen? ⟨gb, k.toNat * 8 + j, none⟩ = false := by
  obtain ⟨⟨⟨cb, h1, h2, h3⟩, h4⟩, h5, h6, h7, h8, h9, h10⟩ := h
  exact fun j hj => ⟨cb[k.toNat * 8 + j]'(by omega), (blk_cell h1 _).trans (Array.getElem?_eq_getElem (by omega)), blk_frozen h1 _⟩
/-- Cells of one block, one behind the other, are written. -/
def putL : World → Nat → Nat → List Value → World
  | W, _, _, [] => W
  | W, g, i, v :: vs => putL (W.setCell ⟨g, i, none⟩ v) g (i + 1) vs
theorem putL_other {g k : Nat} (h : k ≠ g) : ∀ (vs : List Value) (W : World) (i : Nat), (putL W g i vs).heap[k]? = W.heap[k]?
  | [], _, _ => rfl
  | v :: vs, W, i => (putL_other h vs _ _).trans (Below.heap_setCell W ⟨g, i, none⟩ v k h)
theorem putL_size {g : Nat} : ∀ (vs : List Value) (W : World) (i : Nat), (putL W g i vs).heap.size = W.heap.size
  | [], _, _ => rfl
  | v :: vs, W, i => (putL_size vs _ _).trans (by simp [World.setCell])
theorem putL_below {w : World} {n g : Nat} (hg : n ≤ g) : ∀ (vs : List Value) (W : World) (i : Nat), Below n w W → Below n w (putL W g i vs)
  | [], _, _, h => h
  | v :: vs, W, i, h => putL_below hg vs _ _ (h.setCell (p := ⟨g, i, none⟩) hg v)
theorem putL_keep {w : World} {S : Nat → Prop} {g : Nat} (hg : ¬ S g) : ∀ (vs : List Value) (W : World) (i : Nat), Keep S w W → Keep S w (putL W g i vs)
  | [], _, _, h => h
  | v :: vs, W, i, h => putL_keep hg vs _ _ (h.setCell (p := ⟨g, i, none⟩) (.inr hg) v)
theorem putL_from {w : World} {n g : Nat} : ∀ (vs : List Value) (W : World) (i : Nat), KeepsFrom n w W → KeepsFrom n w (putL W g i vs)
  | [], _, _, h => h
  | v :: vs, W, i, h => putL_from vs _ _ (h.trans ((KeepsOthers.setCell _ _ _).from _))
theorem putL_self {g t : Nat} : ∀ (vs : List Value) (W : World) (i : Nat) (cs : Array Value), W.heap[g]? = some (.cells cs t (0, 0)) → i + vs.length ≤ cs.size →
    ∃ cs' : Array Value, (putL W g i vs).heap[g]? = some (.cells cs' t (0, 0)) ∧ cs'.size = cs.size ∧ (∀ j, j < i ∨ i + vs.length ≤ j → cs'[j]? = cs[j]?) ∧ ∀ j u, vs[j]? = some u → cs'[i + j]? = some u
  | [], W, i, cs, h, _ => ⟨cs, h, rfl, fun _ _ => rfl, fun j u hu => by simp at hu⟩
  | v :: vs, W, i, cs, h, hl => by
    rw [List.length_cons] at hl
    obtain ⟨cs', h1, h2, h3, h4⟩ := putL_self vs (W.setCell ⟨g, i, none⟩ v) (i + 1) (cs.setIfInBounds i v) (blk_put h i v rfl) (by rw [Array.size_setIfInBounds]; omega)
    refine ⟨cs', h1, by rw [h2, Array.size_setIfInBounds], fun j hj => ?_, fun j u hu => ?_⟩
    · rw [List.length_cons] at hj
      rw [h3 j (by omega), Array.getElem?_setIfInBounds_ne (by omega)]
    · cases j with
      | zero =>
        rw [List.getElem?_cons_zero] at hu
        rw [Nat.add_zero, h3 i (by omega), Array.getElem?_setIfInBounds_self_of_lt (by omega)]
        exact hu
      | succ j =>
        rw [List.getElem?_cons_succ] at hu
        have := h4 j u hu
        rwa [show i + 1 + j = i + (j + 1) by omega] at this
theorem VMid.put {w : World} {M g6 gb gs : Nat} {c6 : Array Value} {pre : List S28} {x : S28} {Bx : Nat} {W0 W : World} {k : Int} (h : VMid w M g6 gb gs c6 pre x Bx W0 k W) (h1 : k < 1024) (h0 : 0 ≤ k) (hx : bestOf (pre ++ [x]) k.toNat = some x)
    (n1 : gb ≠ gs) (n2 : g6 ≠ gb) (n3 : g6 ≠ gs) (n4 : Bx ≠ gb) (n5 : Bx ≠ gs) (n6 : w.heap.size ≤ gb) (n7 : w.heap.size ≤ gs) : VMid w M g6 gb gs c6 pre x Bx W0 (k + 1) (putL (putL W gb (k.toNat * 8) (enc28 x)) gs k.toNat [.bool true]) := by
  obtain ⟨⟨⟨cb, b1, b2, b3⟩, b4⟩, h5, h6, h7, h8, h9, h10⟩ := h
  obtain ⟨cb', c1, c2, c3, c4⟩ := putL_self (enc28 x) W (k.toNat * 8) cb b1 (by rw [b2]; simp [enc28]; omega)
  obtain ⟨cs', d1, d2, d3, d4⟩ := putL_self [.bool true] (putL W gb (k.toNat * 8) (enc28 x)) k.toNat _ ((putL_other n1.symm _ _ _).trans b4) (by rw [bRow_size]; simp; omega)
  refine ⟨⟨⟨cb', (putL_other n1 _ _ _).trans c1, c2.trans b2, ?_⟩, ?_⟩, (putL_other n3 _ _ _).trans ((putL_other n2 _ _ _).trans h5), putL_below n7 _ _ _ (putL_below n6 _ _ _ h6), by rw [putL_size, putL_size]; exact h7,
    (putL_other n5 _ _ _).trans ((putL_other n4 _ _ _).trans h8), putL_keep (fun hs => hs.2.2 rfl) _ _ _ (putL_keep (fun hs => hs.2.1 rfl) _ _ _ h9), putL_from _ _ _ (putL_from _ _ _ h10)⟩
  · intro t f ht hf j u hu
    have hj : j < 8 := by
      obtain ⟨hj, _⟩ := List.getElem?_eq_some_iff.1 hu
      simpa [enc28] using hj
    by_cases htk : t = k.toNat
    · subst htk
      rw [if_pos (by omega), hx] at hf
      cases hf
      exact c4 j u hu
    · rw [c3 _ (by simp [enc28]; omega)]
      refine b3 t f ht ?_ j u hu
      by_cases hlt : (t : Int) < k
      · rw [if_pos (by omega)] at hf
        rw [if_pos hlt]
        exact hf
      · rw [if_neg (by omega)] at hf
        rw [if_neg hlt]
        exact hf
  · rw [d1]
    suffices hh : cs' = bRow (fun t => if (t : Int) < k + 1 then bestOf (pre ++ [x]) t else bestOf pre t) by rw [hh]
    refine Array.ext_getElem? fun t => ?_
    by_cases ht : t < 1024
    · rw [bRow_at _ ht]
      by_cases htk : t = k.toNat
      · subst htk
        rw [if_pos (by omega), hx]
        exact d4 0 _ rfl
      · rw [d3 t (by simp; omega), bRow_at _ ht]
        by_cases hlt : (t : Int) < k
        · rw [if_pos hlt, if_pos (by omega)]
        · rw [if_neg hlt, if_neg (by omega)]
    · rw [Array.getElem?_eq_none (by rw [d2, bRow_size]; omega), Array.getElem?_eq_none (by rw [bRow_size]; omega)]
theorem VMid.pass {w : World} {M g6 gb gs : Nat} {c6 : Array Value} {pre : List S28} {x : S28} {Bx : Nat} {W0 W : World} {k : Int} (h : VMid w M g6 gb gs c6 pre x Bx W0 k W) (h0 : 0 ≤ k) (hx : bestOf (pre ++ [x]) k.toNat = bestOf pre k.toNat) : VMid w M g6 gb gs c6 pre x Bx W0 (k + 1) W := by
  obtain ⟨h1, h5, h6, h7, h8, h9, h10⟩ := h
  refine ⟨h1.congr fun t ht => ?_, h5, h6, h7, h8, h9, h10⟩
  by_cases htk : t = k.toNat
  · subst htk
    rw [if_neg (by omega), if_pos (by omega), hx]
  · by_cases hlt : (t : Int) < k
    · rw [if_pos hlt, if_pos (by omega)]
    · rw [if_neg hlt, if_neg (by omega)]
theorem VMid.stop {w : World} {M g6 gb gs : Nat} {c6 : Array Value} {pre : List S28} {x : S28} {Bx : Nat} {W0 W : World} {k : Int} (h : VMid w M g6 gb gs c6 pre x Bx W0 k W) (hk : ¬ k < mn x.f2.f1 1024) : VSt gb gs (bestOf (pre ++ [x])) W := by
  refine h.vst.congr fun t ht => ?_
  by_cases hlt : (t : Int) < k
  · rw [if_pos hlt]
  · rw [if_neg hlt, bestOf_snoc]
    unfold best1
    rw [if_neg]
    unfold mn at hk
    split at hk <;> omega
def valB : Option S28 → Int
  | none => -1
  | some f => mx f.f1 (-1)
theorem valL_eq (l : List S28) (q : S26) (known : Int) (t : Nat) : valL l q known (t : Int) = valB (bestOf (ofL l q known) t) := by
  unfold valL bestL bestOf
  cases (ofL l q known).foldl (best1 (t : Int)) none <;> rfl
/-- Within the walk that tells the values. -/
structure VEnd (w : World) (D g6 gb gs : Nat) (b : Nat → Option S28) (k : Nat) (W : World) : Prop where
  vst : VSt gb gs b W
  row : ∃ cs : Array Value, W.heap[g6]? = some (.cells cs 91 (0, 0)) ∧ cs.size = 1024 ∧ ∀ t, t < k → cs[t]? = some (.int .i64 (valB (b t)))
  below : Below w.heap.size w W
  defd : W.heap[D]? = some (.deferred (some []))
theorem VEnd.start {w : World} {D g6 gb gs : Nat} {b : Nat → Option S28} {W : World} {c6 : Array Value} (h1 : VSt gb gs b W) (h2 : W.heap[g6]? = some (.cells c6 91 (0, 0))) (h3 : c6.size = 1024) (h4 : Below w.heap.size w W) (h5 : W.heap[D]? = some (.deferred (some []))) : VEnd w D g6 gb gs b 0 W :=
  ⟨h1, ⟨c6, h2, h3, fun t ht => absurd ht (Nat.not_lt_zero _)⟩, h4, h5⟩
theorem VEnd.cell {w : World} {D g6 gb gs : Nat} {b : Nat → Option S28} {W : World} {k : Nat} (h : VEnd w D g6 gb gs b k W) (hk : k < 1024) : ∃ o, W.cell? ⟨g6, k, none⟩ = some o ∧ W.frozen? ⟨g6, k, none⟩ = false := by
  obtain ⟨_, ⟨cs, h1, h2, _⟩, _, _⟩ := h
  exact ⟨cs[k]'(by omega), (blk_cell h1 _).trans (Array.getElem?_eq_getElem (by omega)), blk_frozen h1 _⟩
theorem VEnd.put_ {w : World} {D g6 gb gs : Nat} {b : Nat → Option S28} {W : World} {k k' : Nat} (h : VEnd w D g6 gb gs b k W) (hk : k < 1024) (v : Int) (hv : ∀ t, t < k' → t < k ∨ t = k ∧ v = valB (b k)) (n1 : g6 ≠ gb) (n2 : g6 ≠ gs) (n3 : D ≠ g6) (n4 : w.heap.size ≤ g6) : VEnd w D g6 gb gs b k' (putL W g6 k [.int .i64 v]) := by
  obtain ⟨h0, ⟨cs, h1, h2, h3⟩, h4, h5⟩ := h
  obtain ⟨cs', c1, c2, c3, c4⟩ := putL_self [.int .i64 v] W k cs h1 (by simp; omega)
  refine ⟨h0.keep (putL_other n1.symm _ _ _) (putL_other n2.symm _ _ _), ⟨cs', c1, c2.trans h2, fun t ht => ?_⟩, putL_below n4 _ _ _ h4, (putL_other n3 _ _ _).trans h5⟩
  rcases hv t ht with h6 | ⟨rfl, rfl⟩
  · rw [c3 t (.inl h6)]
    exact h3 t h6
  · exact c4 0 _ rfl
theorem VEnd.put {w : World} {D g6 gb gs : Nat} {b : Nat → Option S28} {W : World} {k : Nat} (h : VEnd w D g6 gb gs b k W) (hk : k < 1024) (v : Int) (hv : v = valB (b k)) (n1 : g6 ≠ gb) (n2 : g6 ≠ gs) (n3 : D ≠ g6) (n4 : w.heap.size ≤ g6) : VEnd w D g6 gb gs b (k + 1) (putL W g6 k [.int .i64 v]) :=
  h.put_ hk v (fun t ht => by by_cases h : t < k; exact .inl h; exact .inr ⟨by omega, hv⟩) n1 n2 n3 n4
theorem VEnd.put0 {w : World} {D g6 gb gs : Nat} {b : Nat → Option S28} {W : World} {k : Nat} (h : VEnd w D g6 gb gs b k W) (hk : k < 1024) (v : Int) (n1 : g6 ≠ gb) (n2 : g6 ≠ gs) (n3 : D ≠ g6) (n4 : w.heap.size ≤ g6) : VEnd w D g6 gb gs b k (putL W g6 k [.int .i64 v]) :=
  h.put_ hk v (fun t ht => .inl ht) n1 n2 n3 n4
theorem VEnd.all {w : World} {D g6 gb gs : Nat} {l : List S28} {q : S26} {known : Int} {W : World} (h : VEnd w D g6 gb gs (bestOf (ofL l q known)) 1024 W) : W.heap[g6]? = some (.cells (rowC (valsL l q known)) 91 (0, 0)) := by
  obtain ⟨_, ⟨cs, h1, h2, h3⟩, _, _⟩ := h
  rw [h1]
  suffices hh : cs = rowC (valsL l q known) by rw [hh]
  refine Array.ext_getElem? fun t => ?_
  by_cases ht : t < 1024
  · rw [h3 t ht, ← valL_eq]
    simp only [rowC, valsL, List.getElem?_toArray, List.getElem?_map, List.getElem?_range ht, Option.map_some]
  · rw [Array.getElem?_eq_none (by omega), Array.getElem?_eq_none (by rw [rowC_size, valsL_len]; omega)]
theorem under91 : (Try.prog.underlying 91).map (fun d => match d with | .struct _ | .array _ _ => true | _ => false) = some true := by kernel_rfl
theorem load_rowIn {F : Fence} {n : Nat} {ops : Array Oper} {rest : List Oper} {o : Oper} {a : Act} {W : World} {Q : Exit → Act → World → Prop} {x : Operand} {g : Nat} {vs : List Int} (hgd : o.guard = none) (ho : o.op = .load 91 x) (hx : a.eval x = .pointer (some ⟨g, 0, none⟩)) (hg : W.heap[g]? = some (.cells (rowC vs) 91 (0, 0))) (hl : vs.length = 1024)
    (h : wpListIn F n Try.prog ops Q rest (a.put o.dst (.agg (rowC vs))) W) : wpListIn F n Try.prog ops Q (o :: rest) a W := by
  obtain ⟨d, hd, hd2⟩ := Option.map_eq_some_iff.1 under91
  refine wpListIn_plain hgd fun K hK => ?_
  refine ⟨fun f hf => ?_, ?_⟩
  · simp [Oper.about, ho] at hf
  · rw [Oper.semAt_plain F _ _ (by rw [ho]; intro c hc; cases hc)]
    unfold execOp
    simp only [ho, hx, Instr.loadAt, Instr.sureAddr, Sem.run_bind, Sem.run_pure, Result.andThen_ok, run_loadVar_row W g 91 91 _ _ d hg hd (by cases d <;> first | rfl | simp at hd2) (size91 vs hl)]
    exact hK _ _ h
theorem store_rowIn {F : Fence} {n : Nat} {ops : Array Oper} {rest : List Oper} {o : Oper} {a : Act} {W : World} {Q : Exit → Act → World → Prop} {x y : Operand} {g : Nat} {vs : List Int} {old : Array Value} (hgd : o.guard = none) (ho : o.op = .store 91 x y) (hx : a.eval x = .pointer (some ⟨g, 0, none⟩)) (hy : a.eval y = .agg (rowC vs)) (hg : W.heap[g]? = some (.cells old 91 (0, 0))) (hold : old.size = 1024) (hl : vs.length = 1024)
    (h : wpListIn F n Try.prog ops Q rest (a.put o.dst undef) (W.setRow g (rowC vs))) : wpListIn F n Try.prog ops Q (o :: rest) a W := by
  refine wpListIn_plain hgd fun K hK => ?_
  refine ⟨fun f hf => ?_, ?_⟩
  · simp [Oper.about, ho] at hf
  · rw [Oper.semAt_plain F _ _ (by rw [ho]; intro c hc; cases hc)]
    unfold execOp
    simp only [ho, hx, hy, Instr.storeAt, Instr.sureAddr, Sem.run_bind, Sem.run_pure, Result.andThen_ok, run_storeVar_row W g 91 91 old _ hg (size91 vs hl) (by rw [hold, rowC_size, hl]) (rowC_one vs)]
    exact hK _ _ h
theorem VEnd.last {w : World} {D g6 gb gs : Nat} {l : List S28} {q : S26} {known : Int} {W : World} (h : VEnd w D g6 gb gs (bestOf (ofL l q known)) 1024 W) (n3 : D ≠ g6) (n4 : w.heap.size ≤ g6) (n5 : w.heap.size ≤ D) {tm : Array Value} {F : Fence} {n : Nat} (h6 : tm.getD 6 undef = .pointer (some ⟨g6, 0, none⟩)) :
    bodyPostM F n Try.prog Try.f48 (fun e w' => e = .returned (.agg (rowC (valsL l q known))) ∧ Below w.heap.size w w') Exit.ret { tmps := tm, defers := [{ target := Target.collected D, args := #[] }] } (W.setRow g6 (rowC (valsL l q known))) := by
  obtain ⟨d, hd, hd2⟩ := Option.map_eq_some_iff.1 under91
  have h1 := setRow_heap W g6 _ (rowC (valsL l q known)) _ _ h.all
  have h2 : (W.setRow g6 (rowC (valsL l q known))).heap[D]? = some (.deferred (some [])) := (setRow_other W g6 D _ n3).trans h.defd
  refine ⟨by simp, .inl ⟨_, _, rfl, run_takeDeferred h2, ?_⟩⟩
  have h3 := (World.putObj_heap_other (o := .deferred none) (w := W.setRow g6 (rowC (valsL l q known))) (k := g6) (r := D) (fun e => n3 e.symm)).trans h1
  refine ⟨_, results_cell_row rfl _ _ g6 91 _ (0, 0) d h6 h3 hd (by cases d <;> first | rfl | simp at hd2) (size91 _ (valsL_len _ _ _)), rfl, ?_⟩
  have hb := h.below
  have hlt := blk_lt h.all
  refine ⟨hb.os, hb.tape, hb.output, by simpa using hb.size, fun k hk => ?_⟩
  rw [World.putObj_heap_other (by omega), setRow_other W g6 k _ (by omega)]
  exact hb.block k hk
end
section
open Go.Shelf Go.Proofs.Ytbnaecdeocbkpaa.Rng
attribute [local go_sem] Oper.semAt_some
attribute [local go_sem high] eqA26 max2_mx min2_mn
set_option maxRecDepth 100000 in
set_option maxHeartbeats 8000000 in
theorem values_in (A : Option Addr) (c : Nat) (l : List S28) (q : S26) (known : Int) (w : World) (hr : Kd.C k28 w A l.length l) (hc : l.length ≤ c) :
    CallsIn Fence.wide 3 Try.prog 48 #[.slice A l.length c, .agg #[.int .i64 q.f0, .int .i64 q.f1, .int .i64 q.f2], .int .i64 known] w fun e w' => e = .returned (.agg (rowC (valsL l q known))) ∧ Below w.heap.size w w' := by
  have h51 : Fence.wide.fn 51 := trivial
  have h36 : Fence.wide.fn 36 := trivial
  have hu28 := Try.underlying28
  have hu26 := Try.underlying26
  have HR := Lib.hid hr
  clear hr
  refine callsIn_of_wp_marks Try.func48 rfl trivial ?_ rfl
  simp only [Try.ntmps48, List.size_toArray, List.length_cons, List.length_nil, Nat.reduceAdd, Nat.reduceSub, Array.replicate_succ, Array.replicate_zero, List.push_toArray, List.append_toArray, List.nil_append, List.cons_append]
  gi_wp2_with first
    | (refine alloc_eventIn info91 rfl rfl ?_; intro g6 hg6 c6 hs6 w1 b6 B1 z1; have HG6 := Lib.hid hg6; have HS6 := Lib.hid hs6; have H6 := Lib.hid b6; have HB1 := Lib.hid B1; have HZ1 := Lib.hid z1; clear hg6 hs6 b6 B1 z1)
    | (refine alloc_eventIn info96 rfl rfl ?_; intro g7 hg7 c7 hs7 w2 b7 B2 z2; have HG7 := Lib.hid hg7; have HS7 := Lib.hid hs7; have H7 := Lib.hid b7; have HB2 := Lib.hid B2; have HZ2 := Lib.hid z2; clear hg7 hs7 b7 B2 z2)
    | (refine alloc_zeroIn info97 rfl rfl ?_; intro g8 hg8 w3 b8 B3 z3; have HG8 := Lib.hid hg8; have H8 := Lib.hid b8; have HB3 := Lib.hid B3; have HZ3 := Lib.hid z3; have HBX := Lib.hid (blk_below (blk_below (blk_below (blk_new w (.cells #[.int .i64 q.f0, .int .i64 q.f1, .int .i64 q.f2] 26)) HB1.out) HB2.out) B3); have cb0 : w3.cell? ⟨w.heap.size, 0, none⟩ = some (.int .i64 q.f0) := blk_cell HBX.out 0; have cb1 : w3.cell? ⟨w.heap.size, 1, none⟩ = some (.int .i64 q.f1) := blk_cell HBX.out 1; have cb2 : w3.cell? ⟨w.heap.size, 2, none⟩ = some (.int .i64 q.f2) := blk_cell HBX.out 2; clear hg8 b8 B3 z3)
    | (gi_at_call 51; refine (of_in Fence.wide 2 trivial rfl A l.length c q known _).mono ?_; rintro e w4 ⟨rfl, hw4⟩; clear cb0 cb1 cb2)
  have bL := (three_boxes' (w5 := w3) (.cells #[.slice A l.length c] 33) (.cells #[.int .i64 q.f0, .int .i64 q.f1, .int .i64 q.f2] 26) (.cells #[.int .i64 known] 3))
  obtain ⟨bS, bK, bT, hz4⟩ := bL
  have hB4 : Below w3.heap.size w3 (((w3.alloc (.cells #[.slice A l.length c] 33)).alloc (.cells #[.int .i64 q.f0, .int .i64 q.f1, .int .i64 q.f2] 26)).alloc (.cells #[.int .i64 known] 3)) := (((Below.refl _ w3).alloc (Nat.le_refl _) _).alloc (by simp) _).alloc (by simp; omega) _
  rw [← hw4] at bS bK bT hz4 hB4 ⊢
  clear hw4
  have hw1 : Below w.heap.size w w1 := below_step ((Below.refl _ w).alloc (Nat.le_refl _) _) HB1.out
  have hw3 : Below w.heap.size w w3 := below_step (below_step hw1 HB2.out) HB3.out
  have hw4 : Below w.heap.size w w4 := below_step hw3 hB4
  have z6 := HG6.out
  have z7 := HG7.out
  have z8 := HG8.out
  have y1 := HZ1.out
  have y2 := HZ2.out
  have y3 := HZ3.out
  rw [World.size_alloc] at z6
  have b6 := blk_below (blk_below (blk_below H6.out HB2.out) HB3.out) hB4
  have b7 := blk_below (blk_below H7.out HB3.out) hB4
  have b8 := blk_below H8.out hB4
  rw [bRow_none] at b8
  clear hB4 hw3 hw1 HBX HB1 HB2 HB3
  have HZZ := Lib.hid (show g6 = w.heap.size + 1 ∧ g7 = w.heap.size + 2 ∧ g8 = w.heap.size + 3 ∧ w4.heap.size = w.heap.size + 7 by omega)
  refine wpIn_rangeFunc_ownH rfl (by decide) (gf := 52) (lb := #[.pointer (some ⟨w3.heap.size, 0, none⟩), .pointer (some ⟨w3.heap.size + 1, 0, none⟩), .pointer (some ⟨w3.heap.size + 1 + 1, 0, none⟩)]) rfl trivial (enters_of Try.func52 (by kernel_rfl) rfl)
    (of_stops 2 (by decide) w3.heap.size (w3.heap.size + 1) (w3.heap.size + 1 + 1) (fun k => k < w4.heap.size ∧ k ≠ g7 ∧ k ≠ g8) A c l q known w w4 (by omega) (by omega) (by omega) hw4 (fun k hk => ⟨by omega, by omega, by omega⟩) ⟨by omega, by omega, by omega⟩ ⟨by omega, by omega, by omega⟩ ⟨by omega, by omega, by omega⟩ bS bK bT HR.out hc) keep_t (keep_b (fun k hk => hk.1)) (Below.refl _ _) (fun _ => rfl)
    (VInv w w4.heap.size g6 g7 g8 c6)
    (fun _ _ _ => False)
    (VInv.own w w4.heap.size g6 g7 g8 c6 (by omega))
    (fun _ _ _ _ _ hs _ _ => hs)
    ⟨⟨⟨c7, b7, HS7.out, fun t f ht hf => by cases hf⟩, b8⟩, b6, hw4, Nat.le_refl _⟩
    (fun x a' W => ∃ Bx, W.heap[Bx]? = some (.cells #[.int .i64 x.f0.f0, .int .i64 x.f0.f1, .int .i64 x.f0.f2, .int .i64 x.f1, .int .i64 x.f2.f0, .int .i64 x.f2.f1, .int .i64 x.f3, .int .i64 x.f4] 28 (0, 0)) ∧ w4.heap.size ≤ Bx ∧ a' = { tmps := #[.slice A l.length c, .agg #[.int .i64 q.f0, .int .i64 q.f1, .int .i64 q.f2], .int .i64 known, undef, .pointer (some ⟨w.heap.size, 0, none⟩), undef, .pointer (some ⟨g6, 0, none⟩), .pointer (some ⟨g7, 0, none⟩), .pointer (some ⟨g8, 0, none⟩), .pointer (some ⟨Bx, 0, none⟩), undef, undef, .slice A l.length c, .agg #[.int .i64 q.f0, .int .i64 q.f1, .int .i64 q.f2], .int .i64 known, .func (.func 52) #[] #[.pointer (some ⟨w3.heap.size, 0, none⟩), .pointer (some ⟨w3.heap.size + 1, 0, none⟩), .pointer (some ⟨w3.heap.size + 1 + 1, 0, none⟩)], .agg #[.int .i64 x.f0.f0, .int .i64 x.f0.f1, .int .i64 x.f0.f2, .int .i64 x.f1, .int .i64 x.f2.f0, .int .i64 x.f2.f1, .int .i64 x.f3, .int .i64 x.f4], undef, undef, undef, undef, undef, undef, undef, undef, undef, undef, undef, undef, undef, undef, undef, undef, undef, undef, undef, undef, undef, undef, undef, undef, undef, undef, undef, undef, undef, undef, undef, undef, undef, undef, undef, undef, undef, undef, undef, undef, undef, undef, undef, undef, undef, undef], defers := [] })
    (fun x a' _ X Y row hs hg hr => by
      obtain ⟨Bx, h2, h4, h3⟩ := hs
      exact ⟨Bx, cells_turn h2 hg (fun r e => (hr r e).2), h4, h3⟩)
    ?assign ?body ?done ?stop
  case assign =>
    clear z6 z7 z8 y1 y2 y3 hz4 bS bK bT b6 b7 b8
    rintro l pre x W K ⟨h1, h2, hB, hM⟩ hK
    have HM := Lib.hid hM
    clear hM
    dsimp only [enc28A]
    gi_wp2
    exact hK _ _ ((KeepsOthers.alloc _ _).from _) ((Keep.refl _ W).alloc _) ⟨h1.keep (alloc_old _ (by have := HM.out; have := HZZ.out; omega)) (alloc_old _ (by have := HM.out; have := HZZ.out; omega)), blk_alloc h2 _, hB.alloc hB.size _, by have := HM.out; simp; omega⟩ ⟨W.heap.size, heap_alloc_new W _, HM.out, rfl⟩
  case body =>
    clear z6 z7 z8 y1 y2 y3 hz4 bS bK bT b6 b7 b8 HG6 HG7 HG8 HZ1 HZ2 HZ3 H6 H7 H8
    rintro l pre x a' W hl ⟨r, hr⟩ ⟨h1, h2, hB, hM⟩ ⟨Bx, hX, hBx, rfl⟩ hlen
    have HX := Lib.hid hX
    have HV := Lib.hid h1
    have H6 := Lib.hid h2
    have HB := Lib.hid hB
    have HM := Lib.hid hM
    have HBx := Lib.hid hBx
    have cx4 : W.cell? ⟨Bx, 4, none⟩ = some (.int .i64 x.f2.f0) := blk_cell hX 4
    clear hX h1 h2 hB hM hBx hl hr hlen
    gi_wp2
    gi_loopw [10] (fun i wr => ∃ k : Int, i = .int .i64 k ∧ Aside0 (mx 0 x.f2.f0 ≤ k) ∧ Aside0 (VMid w w4.heap.size g6 g7 g8 c6 pre x Bx W k wr)) (fun i _ => (1024 - intOf i).toNat)
    case atStart => exact ⟨_, rfl, ⟨Int.le_refl _⟩, ⟨VMid.start HV.out H6.out HB.out HM.out HX.out⟩⟩
    case round =>
      obtain ⟨k, rfl, HK, HW⟩ := hrel
      have hX := HW.out.slot
      have cx5 : wr.cell? ⟨Bx, 5, none⟩ = some (.int .i64 x.f2.f1) := blk_cell hX 5
      clear hX
      by_cases hlt : k < mn x.f2.f1 1024
      · have hk0 : 0 ≤ k := Int.le_trans (by unfold mx; split <;> omega) HK.out
        have hk1 : k < 1024 := Int.lt_of_lt_of_le hlt (by unfold mn; split <;> omega)
        have hw1 : IntKind.i64.wrap (k + 1) = k + 1 := (i64_w _).trans (by unfold wrap64; omega)
        have HT := Lib.hid (show x.f2.f0 ≤ ((k.toNat : Nat) : Int) ∧ ((k.toNat : Nat) : Int) < x.f2.f1 by
          have h1 := HK.out
          unfold mx at h1
          have h2 := hlt
          unfold mn at h2
          constructor
          · split at h1 <;> omega
          · split at h2 <;> omega)
        have HN := Lib.hid (show g6 ≠ g7 ∧ g6 ≠ g8 ∧ Bx ≠ g7 ∧ Bx ≠ g8 ∧ w.heap.size ≤ g7 ∧ w.heap.size ≤ g8 by have := HZZ.out; have := HBx.out; omega)
        gi_wp2
        obtain ⟨cb, hb1, hb2, hb3⟩ := HW.out.vst.best
        have hs := (blk_cell HW.out.vst.known k.toNat).trans (bRow_at _ (by omega))
        have HBB := Lib.hid (show (if ((k.toNat : Nat) : Int) < k then bestOf (pre ++ [x]) k.toNat else bestOf pre k.toNat) = bestOf pre k.toNat from if_neg (by omega))
        rw [HBB.out] at hs
        have HS := Lib.hid hs
        clear hs
        cases hB : bestOf pre k.toNat with
        | none =>
          refine r8_none (by kernel_rfl) hk0 hk1 (by rw [HS.out, hB]; rfl) (fun wd hd => ?_)
          have HD := Aside0.mk (HW.out.step hd)
          have hX := HD.out.slot
          have cx0 : wd.cell? ⟨Bx, 0, none⟩ = some (.int .i64 x.f0.f0) := blk_cell hX 0
          have cx1 : wd.cell? ⟨Bx, 1, none⟩ = some (.int .i64 x.f0.f1) := blk_cell hX 1
          have cx2 : wd.cell? ⟨Bx, 2, none⟩ = some (.int .i64 x.f0.f2) := blk_cell hX 2
          have cx3 : wd.cell? ⟨Bx, 3, none⟩ = some (.int .i64 x.f1) := blk_cell hX 3
          have cx4' : wd.cell? ⟨Bx, 4, none⟩ = some (.int .i64 x.f2.f0) := blk_cell hX 4
          have cx5' : wd.cell? ⟨Bx, 5, none⟩ = some (.int .i64 x.f2.f1) := blk_cell hX 5
          have cx6 : wd.cell? ⟨Bx, 6, none⟩ = some (.int .i64 x.f3) := blk_cell hX 6
          have cx7 : wd.cell? ⟨Bx, 7, none⟩ = some (.int .i64 x.f4) := blk_cell hX 7
          obtain ⟨o0, co0, fo0⟩ := HD.out.cells hk1 hk0 0 (by decide)
          rw [Nat.add_zero] at co0 fo0
          obtain ⟨o1, co1, fo1⟩ := HD.out.cells hk1 hk0 1 (by decide)
          obtain ⟨o2, co2, fo2⟩ := HD.out.cells hk1 hk0 2 (by decide)
          obtain ⟨o3, co3, fo3⟩ := HD.out.cells hk1 hk0 3 (by decide)
          obtain ⟨o4, co4, fo4⟩ := HD.out.cells hk1 hk0 4 (by decide)
          obtain ⟨o5, co5, fo5⟩ := HD.out.cells hk1 hk0 5 (by decide)
          obtain ⟨o6, co6, fo6⟩ := HD.out.cells hk1 hk0 6 (by decide)
          obtain ⟨o7, co7, fo7⟩ := HD.out.cells hk1 hk0 7 (by decide)
          have cs := (blk_cell HD.out.vst.known k.toNat).trans (bRow_at _ (by omega))
          have fs := blk_frozen HD.out.vst.known k.toNat
          have n78 : g8 ≠ g7 := by have := HZZ.out; omega
          have n87 : g7 ≠ g8 := n78.symm
          clear hX
          gi_wp2
          have hx : bestOf (pre ++ [x]) k.toNat = some x := by rw [bestOf_snoc, hB]; unfold best1; rw [if_pos HT.out]
          exact ⟨⟨_, rfl, ⟨by have := HK.out; omega⟩, ⟨HD.out.put hk1 hk0 hx n87 HN.out.1 HN.out.2.1 HN.out.2.2.1 HN.out.2.2.2.1 HN.out.2.2.2.2.1 HN.out.2.2.2.2.2⟩⟩, by simp [intOf]; omega⟩
        | some g =>
          have hg : ∀ j u, (enc28 g)[j]? = some u → wr.cell? ⟨g7, k.toNat * 8 + j, none⟩ = some u := fun j u hu => (blk_cell hb1 _).trans (hb3 k.toNat g (by omega) (by rw [HBB.out, hB]) j u hu)
          have hX := HW.out.slot
          refine r8_some (by kernel_rfl) hk0 hk1 x g (by rw [HS.out, hB]; rfl) (blk_cell hX 0) (blk_cell hX 1) (blk_cell hX 2) (blk_cell hX 3) (blk_cell hX 4) (blk_cell hX 5) (blk_cell hX 6) (blk_cell hX 7) (hg 0 _ rfl) (hg 1 _ rfl) (hg 2 _ rfl) (hg 3 _ rfl) (hg 4 _ rfl) (hg 5 _ rfl) (hg 6 _ rfl) (hg 7 _ rfl) (fun u wd hd => ?_)
          clear hX hg
          cases hbf : fbefore x g with
          | true =>
            have HD := Aside0.mk (HW.out.step hd)
            rw [Bool.not_true]
            gi_wp2
            have hx : bestOf (pre ++ [x]) k.toNat = bestOf pre k.toNat := by rw [bestOf_snoc, hB]; unfold best1; rw [if_pos HT.out]; simp only [hbf, if_true]
            exact ⟨⟨_, rfl, ⟨by have := HK.out; omega⟩, ⟨HD.out.pass hk0 hx⟩⟩, by simp [intOf]; omega⟩
          | false =>
            rw [Bool.not_false]
            have HD := Aside0.mk (HW.out.step hd)
            have hX := HD.out.slot
            have cx0 : wd.cell? ⟨Bx, 0, none⟩ = some (.int .i64 x.f0.f0) := blk_cell hX 0
            have cx1 : wd.cell? ⟨Bx, 1, none⟩ = some (.int .i64 x.f0.f1) := blk_cell hX 1
            have cx2 : wd.cell? ⟨Bx, 2, none⟩ = some (.int .i64 x.f0.f2) := blk_cell hX 2
            have cx3 : wd.cell? ⟨Bx, 3, none⟩ = some (.int .i64 x.f1) := blk_cell hX 3
            have cx4' : wd.cell? ⟨Bx, 4, none⟩ = some (.int .i64 x.f2.f0) := blk_cell hX 4
            have cx5' : wd.cell? ⟨Bx, 5, none⟩ = some (.int .i64 x.f2.f1) := blk_cell hX 5
            have cx6 : wd.cell? ⟨Bx, 6, none⟩ = some (.int .i64 x.f3) := blk_cell hX 6
            have cx7 : wd.cell? ⟨Bx, 7, none⟩ = some (.int .i64 x.f4) := blk_cell hX 7
            obtain ⟨o0, co0, fo0⟩ := HD.out.cells hk1 hk0 0 (by decide)
            rw [Nat.add_zero] at co0 fo0
            obtain ⟨o1, co1, fo1⟩ := HD.out.cells hk1 hk0 1 (by decide)
            obtain ⟨o2, co2, fo2⟩ := HD.out.cells hk1 hk0 2 (by decide)
            obtain ⟨o3, co3, fo3⟩ := HD.out.cells hk1 hk0 3 (by decide)
            obtain ⟨o4, co4, fo4⟩ := HD.out.cells hk1 hk0 4 (by decide)
            obtain ⟨o5, co5, fo5⟩ := HD.out.cells hk1 hk0 5 (by decide)
            obtain ⟨o6, co6, fo6⟩ := HD.out.cells hk1 hk0 6 (by decide)
            obtain ⟨o7, co7, fo7⟩ := HD.out.cells hk1 hk0 7 (by decide)
            have cs := (blk_cell HD.out.vst.known k.toNat).trans (bRow_at _ (by omega))
            have fs := blk_frozen HD.out.vst.known k.toNat
            have n78 : g8 ≠ g7 := by have := HZZ.out; omega
            have n87 : g7 ≠ g8 := n78.symm
            clear hX
            gi_wp2
            have hx : bestOf (pre ++ [x]) k.toNat = some x := by rw [bestOf_snoc, hB]; unfold best1; rw [if_pos HT.out]; simp only [hbf, Bool.false_eq_true, if_false]
            exact ⟨⟨_, rfl, ⟨by have := HK.out; omega⟩, ⟨HD.out.put hk1 hk0 hx n87 HN.out.1 HN.out.2.1 HN.out.2.2.1 HN.out.2.2.2.1 HN.out.2.2.2.2.1 HN.out.2.2.2.2.2⟩⟩, by simp [intOf]; omega⟩
      · gi_wp2
        exact ⟨HW.out.from_, HW.out.keep, HW.out.stop (by omega), HW.out.row, HW.out.below, HW.out.size⟩
  case done =>
    clear z6 z7 z8 y1 y2 y3 hz4 bS bK bT b6 b7 b8 HG6 HG7 HG8 HZ1 HZ2 HZ3 H6 H7 H8
    rintro D ys W hD rfl ⟨h1, h2, hB, hM⟩ hK
    have HV := Aside0.mk (VEnd.start h1 h2 HS6.out hB hK : VEnd w D g6 g7 g8 (bestOf (ofL l q known)) 0 W)
    have HN := Lib.hid (show g6 ≠ g7 ∧ g6 ≠ g8 ∧ D ≠ g6 ∧ w.heap.size ≤ g6 by have := HZZ.out; omega)
    have HD := Lib.hid hD
    clear h1 h2 hB hM hK hD
    gi_wp2
    gi_loopw [46] (fun i wr => ∃ k : Nat, k ≤ 1024 ∧ i = .int .i64 k ∧ Aside0 (VEnd w D g6 g7 g8 (bestOf (ofL l q known)) k wr)) (fun i _ => (1024 - intOf i).toNat)
    case atStart => exact ⟨0, Nat.zero_le _, rfl, HV⟩
    case round =>
      clear HV
      obtain ⟨k, hk, rfl, HW⟩ := hrel
      by_cases hlt : k < 1024
      · have hw1 : IntKind.i64.wrap ((k : Int) + 1) = (k : Int) + 1 := (i64_w _).trans (by unfold wrap64; omega)
        have hkz : (k : Int) < 1024 := by omega
        obtain ⟨o, co, fo⟩ := HW.out.cell hlt
        have cs := (blk_cell HW.out.vst.known k).trans (bRow_at _ hlt)
        have n76 : g7 ≠ g6 := HN.out.1.symm
        have n86 : g8 ≠ g6 := HN.out.2.1.symm
        cases hb : bestOf (ofL l q known) k with
        | none =>
          rw [hb] at cs
          gi_wp2
          exact ⟨⟨k + 1, by omega, by simp, ⟨HW.out.put hlt (-1) (by rw [hb]; rfl) HN.out.1 HN.out.2.1 HN.out.2.2.1 HN.out.2.2.2⟩⟩, by simp [intOf]; omega⟩
        | some f =>
          rw [hb] at cs
          obtain ⟨cb, hb1, hb2, hb3⟩ := HW.out.vst.best
          have c3 : wr.cell? ⟨g7, k * 8 + 3, none⟩ = some (.int .i64 f.f1) := (blk_cell hb1 _).trans (hb3 k f hlt hb 3 _ rfl)
          have fo3 := blk_frozen hb1 (k * 8 + 3)
          gi_wp2
          exact ⟨⟨k + 1, by omega, by simp, ⟨(HW.out.put0 hlt (-1) HN.out.1 HN.out.2.1 HN.out.2.2.1 HN.out.2.2.2).put hlt (mx f.f1 (-1)) (by rw [hb]; rfl) HN.out.1 HN.out.2.1 HN.out.2.2.1 HN.out.2.2.2⟩⟩, by simp [intOf]; omega⟩
      · obtain rfl : k = 1024 := by omega
        gi_wp2_with first
          | (refine load_rowIn (vs := valsL l q known) rfl rfl ?hx HW.out.all (valsL_len l q known) ?_; (case hx => rfl))
          | (refine store_rowIn (vs := valsL l q known) rfl rfl ?hx ?hy HW.out.all (by rw [rowC_size, valsL_len]) (valsL_len l q known) ?_; (case hx => rfl); (case hy => rfl))
        refine HW.out.last HN.out.2.2.1 HN.out.2.2.2 (by have := HD.out; have := HZZ.out; omega) ?_
        rfl
  case stop =>
    rintro D c pre W _ _ h _
    exact h.elim
end
def facts_values.f (l0 : List (S28)) (a1_0 : Int) (a1_1 : Int) (a1_2 : Int) (a2 : Int) : Option (List Int) := some (valsL l0 ⟨a1_0, a1_1, a1_2⟩ a2)
theorem facts_values.calls (A0 : Option Addr) (c0 : Nat) (l0 : List (S28)) (a1_0 : Int) (a1_1 : Int) (a1_2 : Int) (a2 : Int) (r : List Int) (w : World) (hr0 : Kd.C k28 w A0 l0.length l0) (hc0 : l0.length ≤ c0) (h : facts_values.f l0 a1_0 a1_1 a1_2 a2 = some r) :
    Calls Try.prog 48 #[.slice A0 l0.length c0, .agg #[.int .i64 a1_0, .int .i64 a1_1, .int .i64 a1_2], .int .i64 a2] w fun e w' => e = .returned (.agg (rowC r)) ∧ Below w.heap.size w w' := by
  have h2 : some (valsL l0 ⟨a1_0, a1_1, a1_2⟩ a2) = some r := h
  have h3 := Option.some.inj h2
  subst h3
  exact callsIn_wide.1 (values_in A0 c0 l0 ⟨a1_0, a1_1, a1_2⟩ a2 w hr0 hc0)
--import Derived.Test.YtbnaecdeocbkpaaArr
def facts_PointsW.l0 (vs : List Int) : Nat → Int → List (S83) → Int → Option ((List (S83)))
  | 0, _, _, _ => none
  | k + 1, x3, x10, x12 => if x12 < (mn x3 1024) then (if 0 ≤ x12 then (if (rd vs x12) ≥ 0 then (if x10.length < 8796093022208 then (facts_PointsW.l0 vs k x3 (x10 ++ [(⟨x12, rd vs x12⟩ : S83)]) (wrap64 (x12 + 1))) else (none)) else (facts_PointsW.l0 vs k x3 x10 (wrap64 (x12 + 1)))) else (none)) else (some x10)
def facts_PointsW.f (k : Nat) (l0 : List (S28)) (a1_0 : Int) (a1_1 : Int) (a1_2 : Int) (a2 : Int) (a3 : Int) (a4 : Int) : Option ((List (S83))) := (facts_values.f l0 a1_0 a1_1 a1_2 a4).bind fun t122 => (facts_PointsW.l0 t122 k a3 ([] : List (S83)) (mx 0 a2))
set_option maxHeartbeats 8000000 in
set_option maxRecDepth 100000 in
theorem facts_PointsW.calls (k : Nat) (A0 : Option Addr) (c0 : Nat) (l0 : List (S28)) (a1_0 : Int) (a1_1 : Int) (a1_2 : Int) (a2 : Int) (a3 : Int) (a4 : Int) (r : List (S83)) (w : World) (hr0 : Kd.C k28 w A0 l0.length l0) (hc0 : l0.length ≤ c0) (h : facts_PointsW.f k l0 a1_0 a1_1 a1_2 a2 a3 a4 = some r) :
    Calls Try.prog 39 #[.slice A0 l0.length c0, .agg #[.int .i64 a1_0, .int .i64 a1_1, .int .i64 a1_2], .int .i64 a2, .int .i64 a3, .int .i64 a4] w fun e w' => ∃ v0_ : Value, e = .returned (v0_) ∧ Kd.R k83 83 w' w.heap.size (fun _ => True) v0_ r ∧ Below w.heap.size w w' := by
  have hu26 := Try.underlying26
  have hu91 := Try.underlying91
  have hu83 := Try.underlying83
  have HR0 := Aside0.mk hr0
  have HC0 := Aside0.mk hc0
  clear hr0 hc0
  have HB := Aside0.mk (Below.refl w.heap.size w)
  have H : ((facts_values.f l0 a1_0 a1_1 a1_2 a4).bind fun t122 => (facts_PointsW.l0 t122 k a3 ([] : List (S83)) (mx 0 a2))) = some r := h
  clear h
  replace H := Option.bind_eq_some_iff.mp H
  obtain ⟨t122, A60, H⟩ := H
  replace H : (facts_PointsW.l0 t122 k a3 ([] : List (S83)) (mx 0 a2)) = some r := H
  have A6 := Aside0.mk A60
  clear A60
  obtain ⟨ji7, hji7⟩ : ∃ j_ : Int, (mx 0 a2) = j_ := ⟨_, rfl⟩
  replace H : (facts_PointsW.l0 t122 k a3 ([] : List (S83)) ji7) = some r := by first | (rw [hji7] at H; exact H) | (simp only [hji7] at H ⊢; exact H)
  (try rw [hji7] at A6)
  (try (have hji7l : 0 ≤ ji7 := by (rw [← hji7]; unfold mx; (repeat' split) <;> omega)))
  (try (have hji7m : 0 ≤ ji7 := by omega))
  have hji7_ : (if 0 < a2 then a2 else 0) = ji7 := hji7
  have H' := Aside0.mk H
  clear H
  have hl122 : t122.length = 1024 := by have h_ := A6.out; unfold facts_values.f at h_; injection h_ with h_; rw [← h_]; exact valsL_len _ _ _
  go_enter Try.func39, Try.ntmps39
  go_wp2_with (first | ((with_reducible refine gate_dst (N := 6) rfl ?_); refine box_event ?hg (N := 6) ?hd (cs := #[.int .i64 a1_0, .int .i64 a1_1, .int .i64 a1_2]) (t := 26) ?hr ?_; (case hd => rfl); (case hg => rfl); (case hr => first | (go_simp; done) | (go_simp; rfl)); intro gb121 hg w8 hbox hb; have n0_ := Aside0.mk (below_step (by repeat (first | (with_reducible first | exact HB.out | apply below_alloc | apply pw_below_drewN | apply below_drew1) | exact HB.out)) hb); have n1_ := Aside0.mk (hbox); have n2_ := Aside0.mk ((by rw [hg]; exact (below_size (by repeat (first | (with_reducible first | exact HB.out | apply below_alloc | apply pw_below_drewN | apply below_drew1) | exact HB.out))) : w.heap.size ≤ gb121)); have n3_ := Aside0.mk ((by rw [hg]; exact (below_size (by repeat (first | (with_reducible first | exact HB.out | apply below_alloc | apply pw_below_drewN | apply below_drew1) | exact HB.out))) : w.heap.size ≤ gb121)); clear HB; have HB := n0_; have BK121 := n1_; have GW121 := n2_; have GE121 := n3_; clear n0_ n1_ n2_ n3_; clear hb hbox hg; have hcz9_0 : w8.cell? ⟨gb121, 0, none⟩ = some (.int .i64 a1_0) := (blk_cell BK121.out 0).trans rfl; have hcz9_1 : w8.cell? ⟨gb121, 1, none⟩ = some (.int .i64 a1_1) := (blk_cell BK121.out 1).trans rfl; have hcz9_2 : w8.cell? ⟨gb121, 2, none⟩ = some (.int .i64 a1_2) := (blk_cell BK121.out 2).trans rfl; have hfz9_0 := blk_frozen BK121.out 0; have hfz9_1 := blk_frozen BK121.out 1; have hfz9_2 := blk_frozen BK121.out 2) | ((with_reducible refine gate_callee (f := 48) rfl ?_); refine goesL_ (some 16) rfl rfl Try.func48 (by kernel_rfl) rfl #[.slice A0 l0.length c0, .agg #[.int .i64 a1_0, .int .i64 a1_1, .int .i64 a1_2], .int .i64 a4] rfl (by (try simp only [List.map_toArray, List.map_cons, List.map_nil]); first | done | rfl | (simp only [List.length_drop, List.length_take]; rfl)) ?_; (with_reducible refine (facts_values.calls _ _ l0 a1_0 a1_1 a1_2 a4 t122 _ ?side1 ?side2 A6.out).mono ?_); (case side1 => repeat (first | exact (Kd.C_below HR0.out HB.out) | (with_reducible refine Kd.C_alloc ?_ _) | (with_reducible refine Kd.C_drewN ?_ _) | (with_reducible refine Kd.C_drew ?_))); (case side2 => exact HC0.out); rintro e w10 ⟨rfl, hb⟩; refine ⟨_, rfl, ?_⟩; have n0_ := Aside0.mk (blk_below (g := gb121) (o := .cells #[.int .i64 a1_0, .int .i64 a1_1, .int .i64 a1_2] 26 (0, 0)) (by (with_reducible repeat (first | refine blk_drewN ?_ _ | refine blk_drew ?_ | refine blk_alloc ?_ _)); exact BK121.out) hb); have n1_ := Aside0.mk (below_step (by repeat (first | (with_reducible first | exact HB.out | apply below_alloc | apply pw_below_drewN | apply below_drew1 | refine below_set ?_ GE121.out) | exact HB.out)) hb); clear BK121; clear HB; have BK121 := n0_; have HB := n1_; clear n0_ n1_; (try clear hb); (try clear hb2); (try clear hk); (try clear hi)) | ((with_reducible refine gate_dst (N := 11) rfl ?_); refine alloc_event info91 rfl rfl ?_; intro gb123 hg cs0 hcs0 wA hbox hb; have NB121_123 := nL_ BK121 hg; have NB123_121 := nG_ BK121 hg; replace BK121 := bB_ BK121 hb; have GE123 := gE_ HB hg; replace HB := bL_ HB hb; have BK123 := aK_ hbox; clear hb hbox hg) | ((with_reducible refine gate_store (t := 91) (p := 11) rfl ?_); refine wpList_store_row rfl 91 _ _ rfl gb123 (rowC t122) rfl rfl 91 _ BK123.out (size91 t122 hl122) (by rw [hcs0, rowC_size, hl122]) (rowC_one t122) ?_; replace BK121 := aK_ ((Go.Proofs.Ytbnaecdeocbkpaa.Blk.setRow_far _ gb123 _ (rowC t122) NB121_123.out).trans BK121.out); replace BK123 := aK_ (show (World.setRow _ gb123 (rowC t122)).heap[gb123]? = some (.cells (rowC t122) 91 (0, 0)) from Go.Proofs.Ytbnaecdeocbkpaa.Blk.setRow_block _ gb123 (t122.map (Value.int .i64)) cs0.toList 91 (0, 0) BK123.out); replace HB := aK_ (Go.Proofs.Ytbnaecdeocbkpaa.Blk.setRow_below HB.out GE123.out (rowC t122)); generalize World.setRow _ gb123 (rowC t122) = wU at BK121 BK123 HB ⊢))
  go_loopg [10, 12] k (fun kq v10 v12 w' => ∃ (x10_1 : List (S83)) (x12_1 : Int), v12 = .int .i64 x12_1 ∧ Aside0 (facts_PointsW.l0 t122 kq a3 x10_1 x12_1 = some r) ∧ Aside0 (kq ≤ k) ∧ Aside0 (Kd.R k83 83 w' w.heap.size (fun _ => True) v10 x10_1) ∧ Aside0 (w'.heap[gb121]? = some (.cells #[.int .i64 a1_0, .int .i64 a1_1, .int .i64 a1_2] 26 (0, 0))) ∧ Aside0 (w'.heap[gb123]? = some (.cells (rowC t122) 91 (0, 0))) ∧ Aside0 (Below w.heap.size w w'))
  case atStart => exact ⟨(([] : List (S83))), (ji7), (by first | rfl | (simp; done) | (simp only [← hji7] <;> (first | rfl | simp)) | (simp [*]; done)), H', ⟨Nat.le_refl _⟩, ⟨by first | exact Kd.R_nil _ _ _ _ _ | exact Kd.N_nil _ _ _ _ _ | exact Kd.V_nil _ _ _ _ _ | exact Kd.Q_nil _ _ _ _ _ | exact Kd.S_nil _ _ _ _ _⟩, ⟨by (with_reducible repeat (first | refine blk_drewN ?_ _ | refine blk_drew ?_ | refine blk_alloc ?_ _)); exact BK121.out⟩, ⟨by (with_reducible repeat (first | refine blk_drewN ?_ _ | refine blk_drew ?_ | refine blk_alloc ?_ _)); exact BK123.out⟩, ⟨by repeat (first | (with_reducible first | exact HB.out | apply below_alloc | apply pw_below_drewN | apply below_drew1 | refine below_set ?_ GE121.out | refine below_set ?_ GE123.out) | exact HB.out)⟩⟩
  case round =>
    clear H'
    try clear c1
    try clear p2
    try clear c3
    try clear c4
    try clear c12
    try clear hcz13_0
    try clear hcz9_0
    try clear hcz9_1
    try clear hcz9_2
    try clear hfz13_0
    try clear hfz9_0
    try clear hfz9_1
    try clear hfz9_2
    obtain ⟨x10_1, x12_1, rfl, HA, HK1, HO_10, BK121, BK123, HB⟩ := hrel
    cases gk with
    | zero => exact absurd HA.out (by simp [facts_PointsW.l0])
    | succ k1 =>
      have H := HA.out
      clear HA
      simp only [facts_PointsW.l0] at H
      obtain ⟨ji14, hji14⟩ : ∃ j_ : Int, (mn a3 1024) = j_ := ⟨_, rfl⟩
      replace H : (if x12_1 < (ji14) then (if 0 ≤ x12_1 then (if (rd t122 x12_1) ≥ 0 then (if x10_1.length < 8796093022208 then (facts_PointsW.l0 t122 k1 a3 (x10_1 ++ [(⟨x12_1, rd t122 x12_1⟩ : S83)]) (wrap64 (x12_1 + 1))) else (none)) else (facts_PointsW.l0 t122 k1 a3 x10_1 (wrap64 (x12_1 + 1)))) else (none)) else (some x10_1)) = some r := by first | (rw [hji14] at H; exact H) | (simp only [hji14] at H ⊢; exact H)
      have hji14_ : (if 1024 < a3 then 1024 else a3) = ji14 := hji14
      by_cases c15 : x12_1 < (ji14)
      · rw [if_pos c15] at H
        have c15b0 : decide (x12_1 < (ji14)) = true := decide_eq_true c15
        clear c15
        have cz : 0 ≤ x12_1 := Classical.byContradiction (fun h => by rw [if_neg h] at H; cases H)
        rw [if_pos cz] at H
        have hlt : x12_1 < 1024 := by
          have := of_decide_eq_true c15b0
          rw [← hji14_] at this
          split at this <;> omega
        have hw12 : wrap64 (x12_1 + 1) = x12_1 + 1 := by unfold wrap64; omega
        obtain ⟨ji16, hji16⟩ : ∃ j_ : Int, (rd t122 x12_1) = j_ := ⟨_, rfl⟩
        have hT := row_at BK123.out cz (by rw [hl122]; exact hlt)
        rw [hji16] at hT
        replace H : (if (ji16) ≥ 0 then (if x10_1.length < 8796093022208 then (facts_PointsW.l0 t122 k1 a3 (x10_1 ++ [(⟨x12_1, ji16⟩ : S83)]) (wrap64 (x12_1 + 1))) else (none)) else (facts_PointsW.l0 t122 k1 a3 x10_1 (wrap64 (x12_1 + 1)))) = some r := by first | (rw [hji16] at H; exact H) | (simp only [hji16] at H ⊢; exact H)
        by_cases c17 : (ji16) ≥ 0
        · rw [if_pos c17] at H
          have c17b0 : decide (0 ≤ (ji16)) = true := decide_eq_true c17
          clear c17
          by_cases c19 : x10_1.length < 8796093022208
          · rw [if_pos c19] at H
            have LMc19 := Aside0.mk c19
            clear c19
            obtain ⟨y124, hy124⟩ : ∃ y_ : List (S83), y_ = (x10_1 ++ [(⟨x12_1, ji16⟩ : S83)]) := ⟨_, rfl⟩
            replace H : (facts_PointsW.l0 t122 k1 a3 y124 (wrap64 (x12_1 + 1))) = some r := by first | (rw [hy124]; with_reducible exact H) | (have H2_ := (Option.bind_some _ _).symm.trans H; rw [hy124]; with_reducible exact H2_) | (have H2_ := (Option.bind_some _ _).symm.trans H; with_reducible exact H2_) | with_reducible exact H | (rw [hy124]; exact H) | exact H
            have Ny124 := Aside0.mk hy124
            clear hy124
            have H' := Aside0.mk H
            clear H
            go_wp2_with (first | ((with_reducible refine gate_builtin (b := .append) (xs := #[.tmp 29, .tmp 35]) rfl ?_); at_builtin; refine Kd.R_append k83 (w0 := w) w.heap.size rfl (.tmp 29) (.tmp 35) 81 83 (.agg #[(.int .i64 0), (.int .i64 0)]) 16 rfl Try.underlying81 info83 rfl (by decide) (by omega) u10 x10_1 (⟨x12_1, ji16⟩ : S83) [.int .i64 x12_1, .int .i64 ji16] (fun _ => True) (fun _ => False) rfl rfl ?aP (fun _ hk => hk.elim) ?aF ?aO ?aB ?aS ?aL ?_; (case aP => exact k83_mkM _ _ _ (⟨x12_1, ji16⟩ : S83)); (case aB => exact (by repeat (first | (with_reducible first | exact HB.out | apply below_alloc | apply pw_below_drewN | apply below_drew1 | refine below_set ?_ GE121.out | refine below_set ?_ GE123.out) | exact HB.out))); (case aF => exact (fun _ _ => trivial)); (case aO => exact (by (with_reducible repeat (first | apply Kd.R_alloc | apply Kd.R_drewN | apply Kd.R_drew)); exact HO_10.out)); (case aS => exact (below_size (by repeat (first | (with_reducible first | exact HB.out | apply below_alloc | apply pw_below_drewN | apply below_drew1 | refine below_set ?_ GE121.out | refine below_set ?_ GE123.out) | exact HB.out)))); (case aL => have := LMc19.out; omega); intro v125 w20 ho hb hg hat; rw [← Ny124.out] at ho; have n0_ := Aside0.mk (blk_grown (g := gb121) (o := .cells #[.int .i64 a1_0, .int .i64 a1_1, .int .i64 a1_2] 26 (0, 0)) (by (with_reducible repeat (first | refine blk_drewN ?_ _ | refine blk_drew ?_ | refine blk_alloc ?_ _)); exact BK121.out) hg (Kd.R_ne HO_10.out BK121.out (by decide))); have n1_ := Aside0.mk (blk_grown (g := gb123) (o := .cells (rowC t122) 91 (0, 0)) (by (with_reducible repeat (first | refine blk_drewN ?_ _ | refine blk_drew ?_ | refine blk_alloc ?_ _)); exact BK123.out) hg (Kd.R_ne HO_10.out BK123.out (by decide))); have n2_ := Aside0.mk (hb); have n3_ := Aside0.mk (ho); clear BK121; clear BK123; clear HB; clear HO_10; have BK121 := n0_; have BK123 := n1_; have HB := n2_; have HO126 := n3_; clear n0_ n1_ n2_ n3_; clear ho hb hg hat))
            go_roundg k1
            case measure => have := HK1.out; omega
            case rel => exact ⟨(y124), (wrap64 (x12_1 + 1)), (by first | rfl | (simp; done) | (simp [*]; done)), H', ⟨by have := HK1.out; omega⟩, ⟨by (with_reducible repeat (first | apply Kd.R_alloc | apply Kd.R_drewN | apply Kd.R_drew)); exact HO126.out⟩, ⟨by (with_reducible repeat (first | refine blk_drewN ?_ _ | refine blk_drew ?_ | refine blk_alloc ?_ _)); exact BK121.out⟩, ⟨by (with_reducible repeat (first | refine blk_drewN ?_ _ | refine blk_drew ?_ | refine blk_alloc ?_ _)); exact BK123.out⟩, ⟨by repeat (first | (with_reducible first | exact HB.out | apply below_alloc | apply pw_below_drewN | apply below_drew1 | refine below_set ?_ GE121.out | refine below_set ?_ GE123.out) | exact HB.out)⟩⟩
          · rw [if_neg c19] at H
            exact absurd H (by simp)
        · rw [if_neg c17] at H
          have c17b0 : decide (0 ≤ (ji16)) = false := decide_eq_false c17
          clear c17
          have H' := Aside0.mk H
          clear H
          go_wp2
          go_roundg k1
          case measure => have := HK1.out; omega
          case rel => exact ⟨(x10_1), (wrap64 (x12_1 + 1)), (by first | rfl | (simp; done) | (simp [*]; done)), H', ⟨by have := HK1.out; omega⟩, ⟨by (with_reducible repeat (first | apply Kd.R_alloc | apply Kd.R_drewN | apply Kd.R_drew)); exact HO_10.out⟩, ⟨by (with_reducible repeat (first | refine blk_drewN ?_ _ | refine blk_drew ?_ | refine blk_alloc ?_ _)); exact BK121.out⟩, ⟨by (with_reducible repeat (first | refine blk_drewN ?_ _ | refine blk_drew ?_ | refine blk_alloc ?_ _)); exact BK123.out⟩, ⟨by repeat (first | (with_reducible first | exact HB.out | apply below_alloc | apply pw_below_drewN | apply below_drew1 | refine below_set ?_ GE121.out | refine below_set ?_ GE123.out) | exact HB.out)⟩⟩
      · rw [if_neg c15] at H
        have c15b0 : decide (x12_1 < (ji14)) = false := decide_eq_false c15
        clear c15
        obtain rfl := Option.some.inj H
        go_wp2
        go_ret
        exact ⟨_, by first | rfl | (simp [errW_none, errW_some] <;> rfl) | (simp only [← hji7, ← hji14]; first | rfl | (simp [errW_none, errW_some] <;> rfl)) | (simp [*, errW_none, errW_some] <;> rfl), by (with_reducible repeat (first | apply Kd.R_alloc | apply Kd.R_drewN | apply Kd.R_drew)); exact HO_10.out, by repeat (first | (with_reducible first | exact HB.out | apply below_alloc | apply pw_below_drewN | apply below_drew1 | refine below_set ?_ GE121.out | refine below_set ?_ GE123.out) | exact HB.out)⟩
theorem mn_le (a b : Int) : mn a b ≤ b := by unfold mn; split <;> omega
theorem mx_ge (a b : Int) : a ≤ mx a b := by unfold mx; split <;> omega
theorem rd_valsL (l : List S28) (q : S26) (known t : Int) (h0 : 0 ≤ t) (h1 : t < 1024) : rd (valsL l q known) t = valL l q known t := by
  have ht : t.toNat < (List.range 1024).length := by rw [List.length_range]; omega
  unfold rd valsL
  rw [List.getD_eq_getElem?_getD, List.getElem?_map, List.getElem?_eq_getElem ht, List.getElem_range]
  show valL l q known ((t.toNat : Nat) : Int) = _
  rw [Int.toNat_of_nonneg h0]
theorem pointsW_l0 (l : List S28) (q : S26) (known x3 : Int) : ∀ (n : Nat) (t : Int) (k : Nat) (acc : List S83), (mn x3 1024 - t).toNat = n → 0 ≤ t → n + 1 ≤ k → acc.length + n ≤ 5000 → facts_PointsW.l0 (valsL l q known) k x3 acc t = some (acc ++ ptsL l q known n t)
  | 0, t, k + 1, acc, h, h0, hk, hl => by
    rw [facts_PointsW.l0, if_neg (by omega), ptsL, List.append_nil]
  | n + 1, t, k + 1, acc, h, h0, hk, hl => by
    have h1 : t < mn x3 1024 := by omega
    have h2 := mn_le x3 1024
    rw [facts_PointsW.l0, if_pos h1, if_pos h0, rd_valsL l q known t h0 (by omega), ptsL, show wrap64 (t + 1) = t + 1 from by unfold wrap64; omega]
    by_cases hv : valL l q known t ≥ 0
    · rw [if_pos hv, if_pos (by omega), if_pos hv, pointsW_l0 l q known x3 n (t + 1) k _ (by omega) (by omega) (by omega) (by simp; omega), List.append_assoc]
    · rw [if_neg hv, if_neg hv, pointsW_l0 l q known x3 n (t + 1) k _ (by omega) (by omega) (by omega) (by omega), List.nil_append]
def facts_Points.f (l0 : List (S28)) (a1_0 : Int) (a1_1 : Int) (a1_2 : Int) (a2 : Int) (a3 : Int) (a4 : Int) : Option (List (S83)) := some (ptsL l0 ⟨a1_0, a1_1, a1_2⟩ a4 (mn a3 1024 - mx 0 a2).toNat (mx 0 a2))
theorem facts_Points.calls (A0 : Option Addr) (c0 : Nat) (l0 : List (S28)) (a1_0 : Int) (a1_1 : Int) (a1_2 : Int) (a2 : Int) (a3 : Int) (a4 : Int) (r : List (S83)) (w : World) (hr0 : Kd.C k28 w A0 l0.length l0) (hc0 : l0.length ≤ c0) (h : facts_Points.f l0 a1_0 a1_1 a1_2 a2 a3 a4 = some r) :
    Calls Try.prog 39 #[.slice A0 l0.length c0, .agg #[.int .i64 a1_0, .int .i64 a1_1, .int .i64 a1_2], .int .i64 a2, .int .i64 a3, .int .i64 a4] w fun e w' => ∃ v0_ : Value, e = .returned (v0_) ∧ Kd.R k83 83 w' w.heap.size (fun _ => True) v0_ r ∧ Below w.heap.size w w' := by
  refine facts_PointsW.calls 2000 A0 c0 l0 a1_0 a1_1 a1_2 a2 a3 a4 r w hr0 hc0 ?_
  have h2 := mn_le a3 1024
  have h3 := mx_ge 0 a2
  unfold facts_Points.f at h
  unfold facts_PointsW.f facts_values.f
  rw [Option.bind_some, pointsW_l0 l0 ⟨a1_0, a1_1, a1_2⟩ a4 a3 _ (mx 0 a2) 2000 [] rfl h3 (by omega) (by simp; omega), List.nil_append]
  exact h
--import Derived.Lib.Hide
--import Derived.Outline
--import Derived.RangeFuncNested
--import Derived.RangeFuncBox
--import Derived.RangeFuncBound
--import Derived.RangeFuncCalls
--import Derived.RangeFuncLeaves
--import Derived.Shelf.Abstract
--import Derived.OwnWalkIn
--import Derived.TacticsInMore
--import Derived.LoopNIn
--import Derived.LoopIn
--import Derived.Maps.AppendAt
--import Derived.ChangeKeysEq
--import Derived.Test.YtbnaecdeocbkpaaRng
--import Derived.Test.YtbnaecdeocbkpaaFlat
--import Derived.Test.YtbnaecdeocbkpaaArr
--import Derived.Test.YtbnaecdeocbkpaaPn
section
open Go.Shelf Go.Proofs.Ytbnaecdeocbkpaa.Rng
attribute [local go_sem] Oper.semAt_some
/-! What petitions.look yields: a key's number, the key, and what is known of it. -/
def seqK (zs : List S26) (k : Nat) : List (Nat × S26) := (List.range k).map (fun i => (i, zs.getD i z26))
theorem seqK_succ (zs : List S26) (k : Nat) : seqK zs (k + 1) = seqK zs k ++ [(k, zs.getD k z26)] := by
  unfold seqK
  rw [List.range_succ, List.map_append]
  rfl
theorem seqK_len (zs : List S26) (k : Nat) : (seqK zs k).length = k := by simp [seqK]
theorem seqK_pre (zs : List S26) : ∀ (d k : Nat), seqK zs k <+: seqK zs (k + d)
  | 0, _ => List.prefix_refl _
  | d + 1, k => (seqK_pre zs d k).trans (by rw [← Nat.add_assoc, seqK_succ]; exact List.prefix_append _ _)
def lastV (ps : List S83) : Int := match ps.getLast? with
  | none => 0
  | some p => p.f1
theorem lastV_take (ps : List S83) (j : Nat) (hj : j < ps.length) : lastV (ps.take (j + 1)) = ps[j].f1 := by
  have h : (ps.take (j + 1)).getLast? = some ps[j] := by
    rw [List.take_add_one, List.getElem?_eq_getElem hj, Option.toList_some, List.getLast?_append]
    rfl
  unfold lastV
  rw [h]
def encX (l : List S28) (term known : Int) (x : Nat × S26) : Array Value := #[.int .i64 (x.1 : Int), .agg #[.int .i64 x.2.f0, .int .i64 x.2.f1, .int .i64 x.2.f2, .int .i64 term, .int .i64 (wrap64 (term + 1)), .int .i64 (lookL l x.2 term known)]]
set_option maxRecDepth 100000 in
set_option maxHeartbeats 8000000 in
theorem look1_in (n : Nat) (hn : 1 ≤ n) (l Bk Bt Bw Bn : Nat) (S : Nat → Prop) (v0 v1 v2 : Value) (A : Option Addr) (c : Nat) (fs : List S28) (Az : Option Addr) (cz : Nat) (zs : List S26) (term known : Int) (J Jx : List (Nat × S26) → World → Prop)
    (hJB : ∀ s (W W' : World), Below W.heap.size W W' → J s W → J s W') (w0 : World) (hS : ∀ k, k < w0.heap.size → S k) (hf : Kd.C k28 w0 A fs.length fs) (hc : fs.length ≤ c) (hcz : zs.length ≤ cz)
    (hY : ∀ pre x W, J pre W → pre.length < zs.length → YieldAt Fence.wide (n - 1) Try.prog l (encX fs term known x) W fun e W' =>
      (e = .returned (.bool true) ∧ J (pre ++ [x]) W' ∧ Keep S W W') ∨ (e = .returned (.bool false) ∧ Jx (pre ++ [x]) W'))
    (W : World) (hz : ∀ W', Keep S W W' → Kd.C k26 W' Az zs.length zs) (hb0 : Below w0.heap.size w0 W) (hBk : W.heap[Bk]? = some (.cells #[.slice Az zs.length cz] 68 (0, 0))) (hBt : W.heap[Bt]? = some (.cells #[.int .i64 term] 3 (0, 0))) (hBw : W.heap[Bw]? = some (.cells #[v0, v1, v2, .slice A fs.length c] 41 (0, 0))) (hBn : W.heap[Bn]? = some (.cells #[.int .i64 known] 3 (0, 0)))
    (sk : S Bk) (st : S Bt) (sw : S Bw) (sn : S Bn) (h0 : J [] W) :
    CallsIn Fence.wide n Try.prog 42 #[.func (.yield l) #[] #[], .pointer (some ⟨Bk, 0, none⟩), .pointer (some ⟨Bt, 0, none⟩), .pointer (some ⟨Bw, 0, none⟩), .pointer (some ⟨Bn, 0, none⟩)] W fun e W' => (∃ v, e = .returned v) ∧
      ((∃ ys, ys = seqK zs zs.length ∧ J ys W') ∨ (∃ pre, pre <+: seqK zs zs.length ∧ Jx pre W')) := by
  have h39 : Fence.wide.fn 39 := trivial
  have hmax := (hz W (Keep.refl S W)).2.1
  have hu41 := Try.underlying41
  have hu26 := Try.underlying26
  have hu70 := Try.underlying70
  have hu72 := Try.underlying72
  have hu83 := Try.underlying83
  have HK := Lib.hid hBk
  have HT := Lib.hid hBt
  have HWB := Lib.hid hBw
  have HN := Lib.hid hBn
  have HZ := Lib.hid hz
  have HF := Lib.hid hf
  have HB0 := Lib.hid hb0
  have HS0 := Lib.hid hS
  have cl0 : W.cell? ⟨Bk, 0, none⟩ = some (.slice Az zs.length cz) := blk_cell hBk 0
  clear hBk hBt hBw hBn hz hf hb0 hS
  refine callsIn_of_wp Try.func42 rfl trivial ?_ rfl
  simp only [Try.ntmps42, List.size_toArray, List.length_cons, List.length_nil, Nat.reduceAdd, Nat.reduceSub, Array.replicate_succ, Array.replicate_zero, List.push_toArray, List.append_toArray, List.nil_append, List.cons_append]
  gi_wp2
  clear cl0
  gi_loopw [13] (fun i wr => ∃ k : Nat, k ≤ zs.length ∧ i = .int .i64 k ∧ Aside0 (J (seqK zs k) wr) ∧ Aside0 (Keep S W wr)) (fun i _ => zs.length - (intOf i).toNat)
  case atStart => exact ⟨0, Nat.zero_le _, rfl, ⟨h0⟩, ⟨Keep.refl _ _⟩⟩
  case round =>
    obtain ⟨k, hk, rfl, HJ, HW⟩ := hrel
    by_cases hlt : k < zs.length
    · have hw1 : IntKind.i64.wrap ((k : Int) + 1) = (k : Int) + 1 := (i64_w _).trans (by unfold wrap64; omega)
      have hkz : (k : Int) < (zs.length : Int) := by omega
      have HWL := Aside0.mk (HB0.out.trans (HW.out.below HB0.out.size HS0.out))
      obtain ⟨ad, e, hx0, hx1, hx2⟩ := at_T26 (HZ.out wr HW.out) (k : Int) (by omega) hkz
      obtain ⟨q, hq⟩ : ∃ q, rd_T26 zs (k : Int) = q := ⟨_, rfl⟩
      have HQ := Lib.hid (show zs.getD k z26 = q from hq)
      rw [hq, Int.toNat_natCast] at hx0 hx1 hx2
      subst e
      have hBk' := HW.out.heap HK.out sk
      have hBt' := HW.out.heap HT.out st
      have hBw' := HW.out.heap HWB.out sw
      have hBn' := HW.out.heap HN.out sn
      have ct0 : wr.cell? ⟨Bt, 0, none⟩ = some (.int .i64 term) := blk_cell hBt' 0
      have cw3 : wr.cell? ⟨Bw, 3, none⟩ = some (.slice A fs.length c) := blk_cell hBw' 3
      have cn0 : wr.cell? ⟨Bn, 0, none⟩ = some (.int .i64 known) := blk_cell hBn' 0
      have lt := blk_lt hBt'
      have lw := blk_lt hBw'
      have ln := blk_lt hBn'
      have la := World.block_lt_of_cell? wr _ hx0
      have nt := Nat.ne_of_lt lt
      have nw := Nat.ne_of_lt lw
      have nn := Nat.ne_of_lt ln
      clear hBk' hBt' hBw' hBn' hq
      obtain ⟨ps, hps⟩ : ∃ ps, ptsL fs q known (mn (wrap64 (term + 1)) 1024 - mx 0 term).toNat (mx 0 term) = ps := ⟨_, rfl⟩
      have HPS := Lib.hid (show lookL fs q term known = lastV ps by rw [← hps]; rfl)
      have HPC := Lib.hid (show facts_Points.f fs q.f0 q.f1 q.f2 term (wrap64 (term + 1)) known = some ps from congrArg some hps)
      clear hps
      gi_wp2_with (gi_at_call 39; refine (callsIn_wide.2 (facts_Points.calls A c fs q.f0 q.f1 q.f2 term (wrap64 (term + 1)) known ps _ (Kd.C_alloc (Kd.C_alloc (Kd.C_below HF.out HWL.out) _) _) hc HPC.out)).mono ?_; rintro e w5 ⟨vp, rfl, hR, hb⟩; obtain ⟨Ap, cp, rfl⟩ := Kd.R_slice hR; have HR := Aside0.mk hR; have HPL := Lib.hid (Kd.R_reads' hR).2.2.2.1; have hbx := blk_below (blk_new (wr.alloc (.cells #[.int .i64 q.f0, .int .i64 q.f1, .int .i64 q.f2] 26)) (.cells #[.int .i64 q.f0, .int .i64 q.f1, .int .i64 q.f2, .int .i64 term, .int .i64 (wrap64 (term + 1)), .int .i64 0] 72)) hb; rw [World.size_alloc] at hbx; have HBX := Aside0.mk hbx; have HBL := Aside0.mk (below_step (((Below.refl wr.heap.size wr).alloc (Nat.le_refl _) _).alloc (by simp) _) hb); clear hR hbx hb ct0 cw3 cn0 hx0 hx1 hx2 nt nw nn)
      obtain ⟨wo, hwo⟩ : ∃ wo, wo = wr := ⟨_, rfl⟩
      subst hwo
      gi_loopw [33] (fun i wr => ∃ j : Nat, j ≤ ps.length ∧ i = .int .i64 j ∧ Aside0 (wr.heap[wo.heap.size + 1]? = some (.cells #[.int .i64 q.f0, .int .i64 q.f1, .int .i64 q.f2, .int .i64 term, .int .i64 (wrap64 (term + 1)), .int .i64 (lastV (ps.take j))] 72 (0, 0))) ∧ Aside0 (Below wo.heap.size wo wr) ∧ Aside0 (Kd.R k83 83 wr ((wo.alloc (.cells #[.int .i64 q.f0, .int .i64 q.f1, .int .i64 q.f2] 26)).alloc (.cells #[.int .i64 q.f0, .int .i64 q.f1, .int .i64 q.f2, .int .i64 term, .int .i64 (wrap64 (term + 1)), .int .i64 0] 72)).heap.size (fun _ => True) (.slice Ap ps.length cp) ps)) (fun i _ => ps.length - (intOf i).toNat)
      case atStart => exact ⟨0, Nat.zero_le _, rfl, HBX, HBL, HR⟩
      case round =>
        clear HBX HBL HR
        obtain ⟨j, hj, rfl, HBX, HBL, HR⟩ := hrel
        by_cases hjl : j < ps.length
        · have hw2 : IntKind.i64.wrap ((j : Int) + 1) = (j : Int) + 1 := (i64_w _).trans (by have := HPL.out; unfold wrap64; omega)
          have hjz : (j : Int) < (ps.length : Int) := by omega
          obtain ⟨ap, e, hp0, hp1⟩ := at_T83 (Kd.R_reads' HR.out).2.2 (j : Int) (by omega) hjz
          have hrp : rd_T83 ps (j : Int) = ps[j] := by simp [rd_T83, List.getD_eq_getElem?_getD, List.getElem?_eq_getElem hjl]
          have HTK := Lib.hid (lastV_take ps j hjl)
          obtain ⟨p, hp⟩ : ∃ p, ps[j] = p := ⟨_, rfl⟩
          rw [hrp, hp] at hp0 hp1
          rw [Int.toNat_natCast] at hp0 hp1
          rw [hp] at HTK
          subst e
          have cb5 : wr.cell? ⟨wo.heap.size + 1, 5, none⟩ = some (.int .i64 (lastV (ps.take j))) := blk_cell HBX.out 5
          have fb5 := blk_frozen HBX.out 5
          have lb := blk_lt HBX.out
          have lp := World.block_lt_of_cell? wr _ hp0
          have nb := Nat.ne_of_lt lb
          clear hrp hp
          gi_wp2
          refine ⟨⟨j + 1, by omega, by simp, ⟨?_⟩, ⟨?_⟩, ⟨?_⟩⟩, by simp [intOf]; omega⟩
          · rw [HTK.out]
            exact blk_alloc (blk_put HBX.out 5 _ rfl) _
          · exact (HBL.out.setCell (p := ⟨wo.heap.size + 1, 5, none⟩) (by simp) _).alloc (by have := HBL.out.size; simp [World.setCell]; omega) _
          · exact Kd.R_alloc (Kd.R_set HR.out HBX.out (by decide) 5 _) _
        · obtain rfl : j = ps.length := by omega
          have HPF := Aside0.mk (Kd.R_reads' HR.out).2.2
          have hbx := HBX.out
          rw [List.take_length] at hbx
          have cb0 : wr.cell? ⟨wo.heap.size + 1, 0, none⟩ = some (.int .i64 q.f0) := blk_cell hbx 0
          have cb1 : wr.cell? ⟨wo.heap.size + 1, 1, none⟩ = some (.int .i64 q.f1) := blk_cell hbx 1
          have cb2 : wr.cell? ⟨wo.heap.size + 1, 2, none⟩ = some (.int .i64 q.f2) := blk_cell hbx 2
          have cb3 : wr.cell? ⟨wo.heap.size + 1, 3, none⟩ = some (.int .i64 term) := blk_cell hbx 3
          have cb4 : wr.cell? ⟨wo.heap.size + 1, 4, none⟩ = some (.int .i64 (wrap64 (term + 1))) := blk_cell hbx 4
          have cb5 : wr.cell? ⟨wo.heap.size + 1, 5, none⟩ = some (.int .i64 (lastV ps)) := blk_cell hbx 5
          obtain ⟨fn, tmps, assign, body, hyl, hR⟩ := hY (seqK zs k) (k, q) wr (hJB _ _ _ HBL.out HJ.out) (by rw [seqK_len]; exact hlt)
          dsimp only [encX] at hyl
          rw [HPS.out] at hyl
          have HSQ := Lib.hid (show seqK zs (k + 1) = seqK zs k ++ [(k, q)] by rw [seqK_succ, HQ.out])
          have HKW := Aside0.mk (HW.out.trans (Keep.of_below HBL.out))
          clear hbx HBX HBL HR HPF
          gi_wp2
          refine hR.mono ?_
          rintro e W3 (⟨rfl, hJ3, hk3⟩ | ⟨rfl, hJx3⟩)
          · have HJ3 := Aside0.mk hJ3
            have HK3 := Aside0.mk (HKW.out.trans hk3)
            clear hJ3 hk3
            gi_wp2
            exact ⟨⟨k + 1, by omega, by simp, ⟨by rw [HSQ.out]; exact HJ3.out⟩, ⟨HK3.out⟩⟩, by simp [intOf]; omega⟩
          · have HJ3 := Aside0.mk hJx3
            clear hJx3
            gi_wp2
            refine bodyPost_ret (results_none rfl _ _ _) rfl ?_
            exact ⟨⟨_, rfl⟩, .inr ⟨_, by rw [← HSQ.out, show zs.length = (k + 1) + (zs.length - (k + 1)) by omega]; exact seqK_pre _ _ _, HJ3.out⟩⟩
    · obtain rfl : k = zs.length := by omega
      gi_wp2
      go_end0
      exact ⟨⟨_, rfl⟩, .inl ⟨_, rfl, HJ.out⟩⟩
end
section
open Go.Shelf Go.Proofs.Ytbnaecdeocbkpaa.Rng
attribute [local go_sem] Oper.semAt_some
set_option maxHeartbeats 1000000 in
theorem look_in (F : Fence) (n : Nat) (h29 : F.fn 29) (hro : F.round = none) (v0 v1 v2 : Value) (A : Option Addr) (len c : Nat) (Az : Option Addr) (lz cz : Nat) (term known : Int) (w : World) :
    CallsIn F n Try.prog 29 #[.agg #[v0, v1, v2, .slice A len c], .slice Az lz cz, .int .i64 term, .int .i64 known] w fun e w' => e = .returned (.func (.func 42) #[] #[.pointer (some ⟨w.heap.size + 1, 0, none⟩), .pointer (some ⟨w.heap.size + 1 + 1, 0, none⟩), .pointer (some ⟨w.heap.size, 0, none⟩), .pointer (some ⟨w.heap.size + 1 + 1 + 1, 0, none⟩)]) ∧
      w' = (((w.alloc (.cells #[v0, v1, v2, .slice A len c] 41)).alloc (.cells #[.slice Az lz cz] 68)).alloc (.cells #[.int .i64 term] 3)).alloc (.cells #[.int .i64 known] 3) := by
  refine callsIn_of_wp Try.func29 rfl h29 ?_ hro
  simp only [Try.ntmps29, List.size_toArray, List.length_cons, List.length_nil, Nat.reduceAdd, Nat.reduceSub, Array.replicate_succ, Array.replicate_zero, List.push_toArray, List.append_toArray, List.nil_append, List.cons_append]
  gi_wp2
  go_ret
  exact ⟨rfl, rfl⟩
theorem look_stops (n : Nat) (hn : 1 ≤ n) (Bk Bt Bw Bn : Nat) (S : Nat → Prop) (v0 v1 v2 : Value) (A : Option Addr) (c : Nat) (fs : List S28) (Az : Option Addr) (cz : Nat) (zs : List S26) (term known : Int) (w0 w : World) (hbk : Bk < w.heap.size) (hbt : Bt < w.heap.size) (hbw : Bw < w.heap.size) (hbn : Bn < w.heap.size)
    (hb : Below w0.heap.size w0 w) (hS : ∀ k, k < w0.heap.size → S k) (sk : S Bk) (st : S Bt) (sw : S Bw) (sn : S Bn)
    (hBk : w.heap[Bk]? = some (.cells #[.slice Az zs.length cz] 68 (0, 0))) (hBt : w.heap[Bt]? = some (.cells #[.int .i64 term] 3 (0, 0))) (hBw : w.heap[Bw]? = some (.cells #[v0, v1, v2, .slice A fs.length c] 41 (0, 0))) (hBn : w.heap[Bn]? = some (.cells #[.int .i64 known] 3 (0, 0)))
    (hf : Kd.C k28 w0 A fs.length fs) (hc : fs.length ≤ c) (hz : ∀ W', Keep S w W' → Kd.C k26 W' Az zs.length zs) (hcz : zs.length ≤ cz) :
    SeqStopsK Fence.wide n Try.prog 42 #[.pointer (some ⟨Bk, 0, none⟩), .pointer (some ⟨Bt, 0, none⟩), .pointer (some ⟨Bw, 0, none⟩), .pointer (some ⟨Bn, 0, none⟩)] (encX fs term known) (Keep S) (fun ys => ys = seqK zs zs.length) (fun pre => pre <+: seqK zs zs.length) zs.length w := fun l J Jx W hW hJ _ hY h0 =>
  look1_in n hn l Bk Bt Bw Bn S v0 v1 v2 A c fs Az cz zs term known J Jx (fun s W W' hb hs => hJ s W W' none hs ⟨hb.os, hb.tape, hb.output, hb.size, fun k hk _ => hb.block k hk⟩ (fun r e => by cases e)) w0 hS hf hc hcz hY W (fun W' hk => hz W' (Keep.trans ⟨hW.os, hW.tape, hW.output, hW.size, fun k _ hk => hW.block k hk⟩ hk)) (hb.trans ⟨hW.os, hW.tape, hW.output, hW.size, fun k hk => hW.block k (Nat.lt_of_lt_of_le hk hb.size)⟩)
    ((hW.block _ hbk).trans hBk) ((hW.block _ hbt).trans hBt) ((hW.block _ hbw).trans hBw) ((hW.block _ hbn).trans hBn) sk st sw sn h0
end
--import Derived.ChangeKeysEq
--import Derived.Lib.Hide
--import Derived.LoopIn
--import Derived.LoopNIn
--import Derived.Maps.AppendAt
--import Derived.Outline
--import Derived.OwnWalkIn
--import Derived.RangeFuncBound
--import Derived.RangeFuncBox
--import Derived.RangeFuncCalls
--import Derived.RangeFuncLeaves
--import Derived.RangeFuncNested
--import Derived.Shelf.Abstract
--import Derived.TacticsInMore
--import Derived.Test.YtbnaecdeocbkpaaArr
--import Derived.Test.YtbnaecdeocbkpaaFlat
--import Derived.Test.YtbnaecdeocbkpaaLk
--import Derived.Test.YtbnaecdeocbkpaaRng
section
open Go.Shelf Go.Proofs.Ytbnaecdeocbkpaa.Rng
attribute [local go_sem high] max2_mx min2_mn
def A14T3 : Bool × List (List Nat × List Nat) := (true, [([], []), ([0], [0]), ([1], [1]), ([], []), ([], []), ([4], [4]), ([5], [5]), ([3, 6], [3, 6]), ([2, 7, 0, 1, 2], [2]), ([7, 8, 0, 1, 2, 3, 4, 5, 6, 7, 8], [7])])
def A14B3 : List Nat := [0, 1, 3, 0, 0, 16, 48, 120, 255, 511]
theorem A14tab3 : rtab .any (opsOf Try.f14 3) = A14T3 := by kernel_rfl
theorem A14bits3 : waitsOk A14T3.2 A14B3 = true := by kernel_rfl
theorem append_step {ops : Array Oper} {o : Oper} {a : Act} {W : World} {K : Act → World → Prop} {Q : Exit → Act → World → Prop} {N : Option Tmp} (hw : Region.wanted o (yielded ops a.tmps) = true) (hN : o.dst = N) (s x : Operand) (t : TypeId) (hop : o.op = Op.call { callee := Callee.builtin Builtin.append, args := #[s, x], argTypes := #[t, t] })
    (base : Nat) (e : TypeId) (i : TypeInfo) (z : Value) (size bytes : Nat) (h1 : Try.prog.underlying t = some (.slice e)) (h2 : Try.prog.info? e = some i) (h3 : i.zero = some z) (h4 : i.size = size) (h5 : i.bytes = bytes) (h6 : z.cells.size = size) (h7 : 0 < size)
    (v : Value) (k : Nat) (xs : List Value) (hs : a.eval s = v) (hown : W.ownsRow base e size v k xs) (ad : Addr) (m c : Nat) (news : List Value) (hx : a.eval x = .slice (some ad) m c) (hn : news.length = m * size)
    (hc : ∀ j u, news[j]? = some u → W.cell? (ad.add j) = some u) (h1c : ∀ u ∈ news, u.oneCell' = true) (b1 : k + m ≤ maxLen) (b2 : (k + m) * bytes ≤ 140737488355328) (b3 : base ≤ W.heap.size)
    (hK : ∀ v' w', w'.ownsRow base e size v' (k + m) (xs ++ news) → W.grownBy w' v.ownBlock → (v'.ownBlock = v.ownBlock ∨ v'.ownBlock = some W.heap.size) → K (a.put N v') w') :
    if Region.wanted o (yielded ops a.tmps) = true then Oper.wp Try.prog o a W K Q else K (a.put N undef) W := by
  obtain ⟨v', w', hrun, r1, r2, _, r3⟩ := run_append_own_at (P := Try.prog) W base t o.type e i z size bytes h1 h2 h3 h4 h5 h6 h7 v k xs hown ad m c news hn hc h1c b1 b2 b3
  refine value_ hw hN (w1 := w') (v := v') ?_ (hK v' w' r1 r2 r3)
  simp [execOp, hop, resolve, invoke, builtin, hs, hx, hrun, Result.andThen]
set_option maxRecDepth 100000 in
set_option maxHeartbeats 8000000 in
theorem a3_ {ops : Array Oper} (hops : ops = opsOf Try.f14 3) {n l : Nat} {Q : Exit → Act → World → Prop} {w : World} {D : List Deferred} {g12 g14 Bx : Nat} {x0 x1 x2 x3 x4 x5 x6 x7 x8 x9 x10 x11 x13 x15 x17 x18 x19 x20 x21 x22 x23 x24 x25 x26 x27 x28 x29 x30 x31 x32 x33 x34 x35 x36 x37 x38 x39 : Value} {q0 q1 q2 t0 t1 v o : Int} (base : Nat) (hbase : base ≤ w.heap.size)
    (hX : w.heap[Bx]? = some (.cells #[.int .i64 q0, .int .i64 q1, .int .i64 q2, .int .i64 t0, .int .i64 t1, .int .i64 v] 72 (0, 0))) (h14 : w.heap[g14]? = some (.cells #[.slice none 0 0] 42 (0, 0))) (h12 : w.heap[g12]? = some (.cells #[.int .i64 o] 3 (0, 0))) (n1 : g12 ≠ g14) (n2 : g12 ≠ Bx)
    (hQ : ∀ sl v' w1, w1.ownsRow base 70 5 v' 1 [.int .i64 q0, .int .i64 q1, .int .i64 q2, .int .i64 t0, .int .i64 t1] → Below w.heap.size w w1 → Q .normal { tmps := #[x0, x1, x2, x3, x4, x5, x6, x7, x8, x9, x10, x11, .pointer (some ⟨g12, 0, none⟩), x13, .pointer (some ⟨g14, 0, none⟩), x15, .pointer (some ⟨Bx, 0, none⟩), x17, x18, x19, x20, x21, x22, x23, x24, x25, x26, x27, .pointer (some ⟨Bx, 5, none⟩), .int .i64 v, .int .i64 (mx v 0), .slice none 0 0, .pointer (some ⟨Bx, 0, none⟩), .agg #[.int .i64 q0, .int .i64 q1, .int .i64 q2, .int .i64 t0, .int .i64 t1], sl, v', x36, x37, x38, x39], defers := D } ((w1.setCell ⟨g12, 0, none⟩ (.int .i64 (mx v 0))).setCell ⟨g14, 0, none⟩ v')) :
    (Code.region 3 ops true).wpIn (Fence.wide.inRound l) n Try.prog Q { tmps := #[x0, x1, x2, x3, x4, x5, x6, x7, x8, x9, x10, x11, .pointer (some ⟨g12, 0, none⟩), x13, .pointer (some ⟨g14, 0, none⟩), x15, .pointer (some ⟨Bx, 0, none⟩), x17, x18, x19, x20, x21, x22, x23, x24, x25, x26, x27, x28, x29, x30, x31, x32, x33, x34, x35, x36, x37, x38, x39], defers := D } w := by
  have hu72 := Try.underlying72
  have hu70 := Try.underlying70
  have hnd : noDefer ops = true := by rw [hops]; kernel_rfl
  have hsz : ops.size = 10 := by rw [hops]; kernel_rfl
  have htab : rtab .any ops = A14T3 := by rw [hops]; exact A14tab3
  simp only [opsOf, opsIn, Try.f14, Option.bind_some, Option.getD_some, Nat.reduceBEq, Bool.false_eq_true, if_false, if_true] at hops
  subst hops
  have HX := Lib.hid hX
  have H12 := Lib.hid h12
  have H14 := Lib.hid h14
  refine startIn_ (k := 10) (S := fun w' => w'.heap[Bx]? = some (.cells #[.int .i64 q0, .int .i64 q1, .int .i64 q2, .int .i64 t0, .int .i64 t1, .int .i64 v] 72 (0, 0)) ∧ w'.heap[g14]? = some (.cells #[.slice none 0 0] 42 (0, 0))) (ds := [9]) #[false, false, false, false, false, false, false, false, false, false] (by kernel_rfl) hnd hsz rfl ⟨hX, h14⟩ (fun hHeld => ?_)
  refine with_tabW htab A14bits3 (fun HT_ HW_ => ?_)
  clear htab hnd hsz hX h12 h14
  have HB := Aside0.mk (show Below w.heap.size w w.drew from ⟨rfl, rfl, rfl, Nat.le_refl _, fun _ _ => rfl⟩)
  generalize w.drew = w1 at hHeld HB ⊢
  refine pure_ (i := 0) (N := some 28) (v := ?_) (a' := ?_) #[true, false, false, false, false, false, false, false, false, false] rfl rfl (any_of HT_.out (by kernel_rfl)) (fun _ _ _ h => h) (Or.inl ⟨by rfl, ?_⟩) ?_ ?_
  rotate_left
  · intro w'
    go_simp
    with_reducible rfl
  rotate_left
  · simp only [Act.put, List.setIfInBounds_toArray, List.set_cons_zero, List.set_cons_succ, i64_w, i32_w]
    rfl
  refine take_ (i := 1) (N := some 29) (v := ?_) (a' := ?_) #[true, true, false, false, false, false, false, false, false, false] rfl rfl (take_ofW HT_.out HW_.out (by kernel_rfl)) (fun _ _ _ h => h) (Or.inl ⟨by rfl, ?_⟩) hHeld ?_ ?_
  rotate_left
  · rintro w' ⟨sX, s14⟩
    have c0 : w'.cell? ⟨Bx, 0, none⟩ = some (.int .i64 q0) := blk_cell sX 0
    have c1 : w'.cell? ⟨Bx, 1, none⟩ = some (.int .i64 q1) := blk_cell sX 1
    have c2 : w'.cell? ⟨Bx, 2, none⟩ = some (.int .i64 q2) := blk_cell sX 2
    have c3 : w'.cell? ⟨Bx, 3, none⟩ = some (.int .i64 t0) := blk_cell sX 3
    have c4 : w'.cell? ⟨Bx, 4, none⟩ = some (.int .i64 t1) := blk_cell sX 4
    have c5 : w'.cell? ⟨Bx, 5, none⟩ = some (.int .i64 v) := blk_cell sX 5
    have c14 : w'.cell? ⟨g14, 0, none⟩ = some (.slice none 0 0) := blk_cell s14 0
    clear sX s14
    go_simp
    with_reducible rfl
  rotate_left
  · simp only [Act.put, List.setIfInBounds_toArray, List.set_cons_zero, List.set_cons_succ, i64_w, i32_w]
    rfl
  refine pure_ (i := 2) (N := some 30) (v := ?_) (a' := ?_) #[true, true, true, false, false, false, false, false, false, false] rfl rfl (any_of HT_.out (by kernel_rfl)) (fun _ _ _ h => h) (Or.inl ⟨by rfl, ?_⟩) ?_ ?_
  rotate_left
  · intro w'
    go_simp
    with_reducible rfl
  rotate_left
  · simp only [Act.put, List.setIfInBounds_toArray, List.set_cons_zero, List.set_cons_succ, i64_w, i32_w]
    rfl
  refine take_ (i := 3) (N := some 31) (v := ?_) (a' := ?_) #[true, true, true, true, false, false, false, false, false, false] rfl rfl (take_ofW HT_.out HW_.out (by kernel_rfl)) (fun _ _ _ h => h) (Or.inl ⟨by rfl, ?_⟩) hHeld ?_ ?_
  rotate_left
  · rintro w' ⟨sX, s14⟩
    have c0 : w'.cell? ⟨Bx, 0, none⟩ = some (.int .i64 q0) := blk_cell sX 0
    have c1 : w'.cell? ⟨Bx, 1, none⟩ = some (.int .i64 q1) := blk_cell sX 1
    have c2 : w'.cell? ⟨Bx, 2, none⟩ = some (.int .i64 q2) := blk_cell sX 2
    have c3 : w'.cell? ⟨Bx, 3, none⟩ = some (.int .i64 t0) := blk_cell sX 3
    have c4 : w'.cell? ⟨Bx, 4, none⟩ = some (.int .i64 t1) := blk_cell sX 4
    have c5 : w'.cell? ⟨Bx, 5, none⟩ = some (.int .i64 v) := blk_cell sX 5
    have c14 : w'.cell? ⟨g14, 0, none⟩ = some (.slice none 0 0) := blk_cell s14 0
    clear sX s14
    go_simp
    with_reducible rfl
  rotate_left
  · simp only [Act.put, List.setIfInBounds_toArray, List.set_cons_zero, List.set_cons_succ, i64_w, i32_w]
    rfl
  refine pure_ (i := 4) (N := some 32) (v := ?_) (a' := ?_) #[true, true, true, true, true, false, false, false, false, false] rfl rfl (any_of HT_.out (by kernel_rfl)) (fun _ _ _ h => h) (Or.inl ⟨by rfl, ?_⟩) ?_ ?_
  rotate_left
  · intro w'
    go_simp
    with_reducible rfl
  rotate_left
  · simp only [Act.put, List.setIfInBounds_toArray, List.set_cons_zero, List.set_cons_succ, i64_w, i32_w]
    rfl
  refine take_ (i := 5) (N := some 33) (v := ?_) (a' := ?_) #[true, true, true, true, true, true, false, false, false, false] rfl rfl (take_ofW HT_.out HW_.out (by kernel_rfl)) (fun _ _ _ h => h) (Or.inl ⟨by rfl, ?_⟩) hHeld ?_ ?_
  rotate_left
  · rintro w' ⟨sX, s14⟩
    have c0 : w'.cell? ⟨Bx, 0, none⟩ = some (.int .i64 q0) := blk_cell sX 0
    have c1 : w'.cell? ⟨Bx, 1, none⟩ = some (.int .i64 q1) := blk_cell sX 1
    have c2 : w'.cell? ⟨Bx, 2, none⟩ = some (.int .i64 q2) := blk_cell sX 2
    have c3 : w'.cell? ⟨Bx, 3, none⟩ = some (.int .i64 t0) := blk_cell sX 3
    have c4 : w'.cell? ⟨Bx, 4, none⟩ = some (.int .i64 t1) := blk_cell sX 4
    have c5 : w'.cell? ⟨Bx, 5, none⟩ = some (.int .i64 v) := blk_cell sX 5
    have c14 : w'.cell? ⟨g14, 0, none⟩ = some (.slice none 0 0) := blk_cell s14 0
    clear sX s14
    go_simp
    with_reducible rfl
  rotate_left
  · simp only [Act.put, List.setIfInBounds_toArray, List.set_cons_zero, List.set_cons_succ, i64_w, i32_w]
    rfl
  refine one_ (i := 6) (N := some 34) #[true, true, true, true, true, true, true, false, false, false] rfl rfl (one_of HT_.out (by kernel_rfl)) (by decide) (fun K hK => ?_)
  refine value_ (v := .slice (some ⟨w1.heap.size, 0, none⟩) 1 1) (w1 := w1.alloc (.cells #[.int .i64 q0, .int .i64 q1, .int .i64 q2, .int .i64 t0, .int .i64 t1] 70)) (by rfl) rfl ?_ ?_
  · go_simp
  refine hK.out _ _ ⟨blk_alloc hHeld.1 _, blk_alloc hHeld.2 _⟩ (fun hHeld => ?_)
  have HNEW := Aside0.mk (blk_new w1 (.cells #[.int .i64 q0, .int .i64 q1, .int .i64 q2, .int .i64 t0, .int .i64 t1] 70))
  have HB2 := Aside0.mk (HB.out.alloc (HB.out.size) (.cells #[.int .i64 q0, .int .i64 q1, .int .i64 q2, .int .i64 t0, .int .i64 t1] 70))
  clear HB
  clear hK K
  refine norm_ (a' := ?_) ?_ ?_
  rotate_left
  · show Act.put _ (some 34) _ = _
    simp only [Act.put, List.setIfInBounds_toArray, List.set_cons_zero, List.set_cons_succ, i64_w, i32_w]
    rfl
  obtain ⟨i0, hi0, hz0, hz10, hz2⟩ := info_parts info70
  generalize hw2 : w1.alloc (.cells #[.int .i64 q0, .int .i64 q1, .int .i64 q2, .int .i64 t0, .int .i64 t1] 70) = w2 at hHeld HNEW HB2 ⊢
  refine one_ (i := 7) (N := some 35) #[true, true, true, true, true, true, true, true, false, false] rfl rfl (one_of HT_.out (by kernel_rfl)) (by decide) (fun K hK => ?_)
  refine append_step (by rfl) rfl (.tmp 31) (.tmp 34) 42 rfl base 70 i0 _ 5 40 Try.underlying42 hi0 hz0 hz10 hz2 rfl (by decide) (.slice none 0 0) 0 [] rfl (World.ownsRow_nil _ _ _ _) ⟨w1.heap.size, 0, none⟩ 1 1 [.int .i64 q0, .int .i64 q1, .int .i64 q2, .int .i64 t0, .int .i64 t1] rfl rfl ?news ?onec (by unfold maxLen; omega) (by omega) (Nat.le_trans hbase HB2.out.size) ?_
  case news =>
    have := World.news_of_block (cs := #[.int .i64 q0, .int .i64 q1, .int .i64 q2, .int .i64 t0, .int .i64 t1]) (t := 70) (fr := (0, 0)) HNEW.out
    simpa using this
  case onec =>
    intro u hu
    simp only [List.mem_cons, List.not_mem_nil, or_false] at hu
    rcases hu with rfl | rfl | rfl | rfl | rfl <;> rfl
  intro v' w3 hown hgrow _
  replace hown : w3.ownsRow base 70 5 v' 1 [.int .i64 q0, .int .i64 q1, .int .i64 q2, .int .i64 t0, .int .i64 t1] := hown
  obtain ⟨A', c', rfl⟩ := row_slice hown
  have HO := Aside0.mk hown
  have hb3 : Below w2.heap.size w2 w3 := ⟨hgrow.os, hgrow.tape, hgrow.output, hgrow.size, fun k hk => hgrow.block k hk (fun e => by simp [Value.ownBlock] at e)⟩
  have HB3 := Aside0.mk (below_step HB2.out hb3)
  refine hK.out _ _ ⟨blk_below hHeld.1 hb3, blk_below hHeld.2 hb3⟩ (fun hHeld => ?_)
  clear hown hgrow hb3 HB2 HNEW hw2
  clear hK K
  refine norm_ (a' := ?_) ?_ ?_
  rotate_left
  · show Act.put _ (some 35) _ = _
    simp only [Act.put, List.setIfInBounds_toArray, List.set_cons_zero, List.set_cons_succ, i64_w, i32_w]
    rfl
  refine one_ (i := 8) (N := none) #[true, true, true, true, true, true, true, true, true, false] rfl rfl (one_of HT_.out (by kernel_rfl)) (by decide) (fun K hK => ?_)
  have h12 := blk_below H12.out HB3.out
  have c12 : w3.cell? ⟨g12, 0, none⟩ = some (.int .i64 o) := blk_cell h12 0
  have f12 := blk_frozen h12 0
  clear h12
  refine skip_ (w1 := w3.setCell ⟨g12, 0, none⟩ (.int .i64 (mx v 0))) (by rfl) rfl ?_ ?_
  · go_simp
  refine hK.out _ _ ⟨(Below.heap_setCell w3 ⟨g12, 0, none⟩ _ _ n2.symm).trans hHeld.1, (Below.heap_setCell w3 ⟨g12, 0, none⟩ _ _ n1.symm).trans hHeld.2⟩ (fun hHeld => ?_)
  clear hK K c12 f12
  refine last_ (i := 9) (N := none) #[true, true, true, true, true, true, true, true, true, true] rfl rfl (one_of HT_.out (by kernel_rfl)) (by decide) (fun K hK => ?_)
  have c14 : (w3.setCell ⟨g12, 0, none⟩ (.int .i64 (mx v 0))).cell? ⟨g14, 0, none⟩ = some (.slice none 0 0) := blk_cell hHeld.2 0
  have f14 := blk_frozen hHeld.2 0
  generalize hw4 : w3.setCell ⟨g12, 0, none⟩ (.int .i64 (mx v 0)) = w4 at c14 f14 ⊢
  refine skip_ (w1 := w4.setCell ⟨g14, 0, none⟩ (.slice A' 1 c')) (by rfl) rfl ?_ ?_
  · go_simp
  refine hK.out _ _ ?_
  clear hK K
  refine done_ (done_of HT_.out (by kernel_rfl)) ?_
  rw [← hw4]
  exact hQ _ _ w3 HO.out HB3.out
end
section
open Go.Shelf Go.Proofs.Ytbnaecdeocbkpaa.Rng
def enc70 (x : S70) : List Value := [.int .i64 x.f0.f0, .int .i64 x.f0.f1, .int .i64 x.f0.f2, .int .i64 x.f1, .int .i64 x.f2]
theorem enc70_len (x : S70) : (enc70 x).length = 5 := rfl
theorem enc70_one (x : S70) : ∀ v ∈ enc70 x, v.oneCell' = true := by
  intro v hv
  simp only [enc70, List.mem_cons, List.not_mem_nil, or_false] at hv
  rcases hv with rfl | rfl | rfl | rfl | rfl <;> rfl
theorem R_of_flat70 {w : World} {base : Nat} {ok : Nat → Prop} {v : Value} {ps : List S70} (h : w.ownsRow base 70 5 v ps.length (ps.flatMap enc70)) (hok : ∀ k, v.ownBlock = some k → ok k) : Kd.R k70 70 w base ok v ps :=
  ⟨hok, ps.flatMap enc70, h, Flat.flat_reps enc70_len (fun x => k70_mkM w base ok x) ps⟩
def enc26 (x : S26) : List Value := [.int .i64 x.f0, .int .i64 x.f1, .int .i64 x.f2]
theorem enc26_len (x : S26) : (enc26 x).length = 3 := rfl
theorem enc26_one (x : S26) : ∀ v ∈ enc26 x, v.oneCell' = true := by
  intro v hv
  simp only [enc26, List.mem_cons, List.not_mem_nil, or_false] at hv
  rcases hv with rfl | rfl | rfl <;> rfl
theorem R_of_flat26 {w : World} {base : Nat} {ok : Nat → Prop} {v : Value} {ps : List S26} (h : w.ownsRow base 26 3 v ps.length (ps.flatMap enc26)) (hok : ∀ k, v.ownBlock = some k → ok k) : Kd.R k26 26 w base ok v ps :=
  ⟨hok, ps.flatMap enc26, h, Flat.flat_reps enc26_len (fun x => k26_mkM w base ok x) ps⟩
/-- A row of keys is read in every world that keeps its block. -/
theorem keys_read {w W : World} {base : Nat} {A : Option Addr} {n c : Nat} {ps : List S26} (h : w.ownsRow base 26 3 (.slice A n c) ps.length (ps.flatMap enc26)) (hk : ∀ k, (Value.slice A n c).ownBlock = some k → W.heap[k]? = w.heap[k]?) : Kd.C k26 W A ps.length ps ∧ n = ps.length ∧ n ≤ c := by
  have h1 := Kd.R_reads' (Kd.R_move (R_of_flat26 (ok := fun k => (Value.slice A n c).ownBlock = some k) h (fun k hk => hk)) hk)
  exact ⟨h1.2.2, h1.1, h1.2.1⟩
/-- What a look at one key leaves in the variables of the call. -/
def valP (fs : List S28) (term known : Int) (pre : List (Nat × S26)) : Int := match pre with
  | [] => 0
  | x :: _ => mx (lookL fs x.2 term known) 0
def AInv (w : World) (M : Nat) (fs : List S28) (term known : Int) (pre : List (Nat × S26)) (W : World) : Prop :=
  ∃ v : Value, (pre = [] → v = .slice none 0 0) ∧ W.heap[w.heap.size + 1 + 1]? = some (.cells #[v] 42 (0, 0)) ∧ W.ownsRow M 70 5 v pre.length (pre.flatMap fun x => enc70 (readL x.2 term)) ∧ W.heap[w.heap.size + 1]? = some (.cells #[.int .i64 (valP fs term known pre)] 3 (0, 0)) ∧ Below w.heap.size w W ∧ M ≤ W.heap.size
theorem AInv.own (w : World) (M : Nat) (fs : List S28) (term known : Int) (hM : w.heap.size ≤ M) : OwnFrom M (AInv w M fs term known) := by
  rintro s X Y row ⟨v, h0, h1, h2, h3, h4, h5⟩ hg hr
  have hr' := fun r e => (hr r e).2
  exact ⟨v, h0, cells_turn h1 hg hr', row_turn h2 hg hr', cells_turn h3 hg hr', h4.grown hg (Nat.le_trans hM h5) (fun k e => Nat.le_trans hM (hr k e).1), Nat.le_trans h5 hg.size⟩
theorem four_boxes {w5 : World} (o1 o2 o3 o4 : Obj) : ((((w5.alloc o1).alloc o2).alloc o3).alloc o4).heap[w5.heap.size]? = some o1 ∧ ((((w5.alloc o1).alloc o2).alloc o3).alloc o4).heap[w5.heap.size + 1]? = some o2 ∧ ((((w5.alloc o1).alloc o2).alloc o3).alloc o4).heap[w5.heap.size + 1 + 1]? = some o3 ∧ ((((w5.alloc o1).alloc o2).alloc o3).alloc o4).heap[w5.heap.size + 1 + 1 + 1]? = some o4 ∧ ((((w5.alloc o1).alloc o2).alloc o3).alloc o4).heap.size = w5.heap.size + 4 := by
  obtain ⟨h1, h2, h3, h4⟩ := three_boxes' (w5 := w5) o1 o2 o3
  refine ⟨blk_alloc h1 _, blk_alloc h2 _, blk_alloc h3 _, ?_, by simp⟩
  have := blk_new (((w5.alloc o1).alloc o2).alloc o3) o4
  rwa [h4] at this
end
section
open Go.Shelf Go.Proofs.Ytbnaecdeocbkpaa.Rng
attribute [local go_sem] Oper.semAt_some
attribute [local go_sem high] max2_mx min2_mn
def ActEnd (w : World) (r1 : Int) (r2 : Bool) (r3 : List S70) (e : Ending) (w' : World) : Prop := ∃ v2_ : Value, e = .returned (.tuple #[.int .i64 r1, .bool r2, v2_]) ∧ Kd.R k70 70 w' w.heap.size (fun _ => True) v2_ r3 ∧ Below w.heap.size w w'
theorem active_end {F : Fence} {n : Nat} {w W : World} {M D : Nat} {A' : Option Addr} {C' : Nat} {rd : S70} {r : Int} {b : Bool} {tm : Array Value} (hD : M ≤ D) (hM : w.heap.size + 3 ≤ M)
    (b2 : W.heap[w.heap.size + 1 + 1]? = some (.cells #[.slice A' 1 C'] 42 (0, 0))) (r1 : W.ownsRow M 70 5 (.slice A' 1 C') 1 (enc70 rd)) (b1 : W.heap[w.heap.size + 1]? = some (.cells #[.int .i64 r] 3 (0, 0))) (hB : Below w.heap.size w W) (hK : W.heap[D]? = some (.deferred (some [])))
    (h12 : tm.getD 12 undef = .pointer (some ⟨w.heap.size + 1, 0, none⟩)) (h13 : tm.getD 13 undef = .bool b) (h14 : tm.getD 14 undef = .pointer (some ⟨w.heap.size + 1 + 1, 0, none⟩)) :
    bodyPostM F n Try.prog Try.f14 (ActEnd w r b [rd]) Exit.ret { tmps := tm, defers := [{ target := Target.collected D, args := #[] }] } W.drew := by
  refine ⟨by simp, .inl ⟨_, _, rfl, run_takeDeferred (w := W.drew) hK, ?_⟩⟩
  have hg : W.drew.grownBy (W.drew.putObj D (.deferred none)) (some D) := grownBy_putObj' W.drew D _
  have hr : ∀ r, some D = some r → ∃ o : Obj, W.drew.heap[r]? = some o ∧ o.isCells = false := fun r e => by
    injection e with e
    subst e
    exact ⟨_, hK, rfl⟩
  have c1 := blk_cell (cells_turn (W := W.drew) b1 hg hr) 0
  have c2 := blk_cell (cells_turn (W := W.drew) b2 hg hr) 0
  have q1 := row_turn (W := W.drew) r1 hg hr
  refine ⟨.tuple #[.int .i64 r, .bool b, .slice A' 1 C'], ?_, ⟨_, rfl, ?_, ?_⟩⟩
  · have h12' : tm[12]?.getD undef = .pointer (some ⟨w.heap.size + 1, 0, none⟩) := by simpa using h12
    have h13' : tm[13]?.getD undef = .bool b := by simpa using h13
    have h14' : tm[14]?.getD undef = .pointer (some ⟨w.heap.size + 1 + 1, 0, none⟩) := by simpa using h14
    have c1' : (W.drew.putObj D (.deferred none)).cell? ⟨w.heap.size + 1, 0, none⟩ = some (.int .i64 r) := c1
    have c2' : (W.drew.putObj D (.deferred none)).cell? ⟨w.heap.size + 1 + 1, 0, none⟩ = some (.slice A' 1 C') := c2
    clear c1 c2
    simp [results, Try.f14, h12', h13', h14', go_sem, c1', c2']
  · exact Kd.R_lower (R_of_flat70 (ps := [rd]) q1 (fun k _ => trivial)) (by omega)
  · exact hB.drew.grown hg hB.size (fun k e => by injection e with e; omega)
set_option maxRecDepth 100000 in
set_option maxHeartbeats 8000000 in
theorem active_in (v0 v1 v2 : Value) (A : Option Addr) (c : Nat) (fs : List S28) (q : S26) (term known : Int) (w : World) (hr : Kd.C k28 w A fs.length fs) (hc : fs.length ≤ c) :
    CallsIn Fence.wide 3 Try.prog 14 #[.agg #[v0, v1, v2, .slice A fs.length c], .int .i64 q.f0, .int .i64 q.f1, .int .i64 q.f2, .int .i64 term, .int .i64 known] w (ActEnd w (mx (lookL fs q term known) 0) (decide (0 < mx (lookL fs q term known) 0)) [readL q term]) := by
  have h29 : Fence.wide.fn 29 := trivial
  have hu41 := Try.underlying41
  have hu26 := Try.underlying26
  have hu70 := Try.underlying70
  have hu72 := Try.underlying72
  have HR := Lib.hid hr
  clear hr
  refine callsIn_of_wp_marks Try.func14 rfl trivial ?_ rfl
  simp only [Try.ntmps14, List.size_toArray, List.length_cons, List.length_nil, Nat.reduceAdd, Nat.reduceSub, Array.replicate_succ, Array.replicate_zero, List.push_toArray, List.append_toArray, List.nil_append, List.cons_append]
  gi_wp2_with (gi_at_call 29; refine (look_in Fence.wide 2 trivial rfl v0 v1 v2 A fs.length c (some ⟨w.heap.size + 1 + 1 + 1, 0, none⟩) 1 1 term known _).mono ?_; rintro e w4 ⟨rfl, hw4⟩)
  have bb := four_boxes (w5 := w) (.cells #[v0, v1, v2, .slice A fs.length c] 41) (.cells #[.int .i64 0] 3) (.cells #[.slice none 0 0] 42) (.cells #[.int .i64 q.f0, .int .i64 q.f1, .int .i64 q.f2] 26)
  have hw3 : Below w.heap.size w ((((w.alloc (.cells #[v0, v1, v2, .slice A fs.length c] 41)).alloc (.cells #[.int .i64 0] 3)).alloc (.cells #[.slice none 0 0] 42)).alloc (.cells #[.int .i64 q.f0, .int .i64 q.f1, .int .i64 q.f2] 26)) := ((((Below.refl _ w).alloc (Nat.le_refl _) _).alloc (by simp) _).alloc (by simp; omega) _).alloc (by simp; omega) _
  generalize (((w.alloc (.cells #[v0, v1, v2, .slice A fs.length c] 41)).alloc (.cells #[.int .i64 0] 3)).alloc (.cells #[.slice none 0 0] 42)).alloc (.cells #[.int .i64 q.f0, .int .i64 q.f1, .int .i64 q.f2] 26) = w3 at bb hw3 hw4 ⊢
  obtain ⟨_, b1, b2, b3, hz3⟩ := bb
  have dd := four_boxes (w5 := w3) (.cells #[v0, v1, v2, .slice A fs.length c] 41) (.cells #[.slice (some ⟨w.heap.size + 1 + 1 + 1, 0, none⟩) 1 1] 68) (.cells #[.int .i64 term] 3) (.cells #[.int .i64 known] 3)
  have hb4 : Below w3.heap.size w3 ((((w3.alloc (.cells #[v0, v1, v2, .slice A fs.length c] 41)).alloc (.cells #[.slice (some ⟨w.heap.size + 1 + 1 + 1, 0, none⟩) 1 1] 68)).alloc (.cells #[.int .i64 term] 3)).alloc (.cells #[.int .i64 known] 3)) := ((((Below.refl _ w3).alloc (Nat.le_refl _) _).alloc (by simp) _).alloc (by simp; omega) _).alloc (by simp; omega) _
  rw [← hw4] at dd hb4 ⊢
  clear hw4
  obtain ⟨dW, dK, dT, dN, hz4⟩ := dd
  have e3 : w3.heap.size = w.heap.size + 1 + 1 + 1 + 1 := hz3
  rw [e3] at dW dK dT dN hz4
  replace b1 := blk_below b1 hb4
  replace b2 := blk_below b2 hb4
  replace b3 := blk_below b3 hb4
  have hw4 := below_step hw3 hb4
  clear hb4 hw3 hz3 e3
  have HZZ := Lib.hid hz4
  have hkeys : ∀ W', Keep (fun k => k < w4.heap.size ∧ k ≠ w.heap.size + 1 ∧ k ≠ w.heap.size + 1 + 1) w4 W' → Kd.C k26 W' (some ⟨w.heap.size + 1 + 1 + 1, 0, none⟩) [q].length [q] := fun W' hk =>
    (keys_read (w := w4) (base := 0) (n := 1) (c := 1) ⟨rfl, .inr ⟨w.heap.size + 1 + 1 + 1, 1, _, rfl, Nat.zero_le _, b3, Nat.le_refl _, by decide, rfl, rfl⟩⟩ (fun k hk' => by
      have e : w.heap.size + 1 + 1 + 1 = k := by simpa [Value.ownBlock] using hk'
      subst e
      exact hk.block _ ⟨by omega, by omega, by omega⟩ (by omega))).1
  refine wpIn_rangeFunc_ownH rfl (by decide) (gf := 42) (lb := #[.pointer (some ⟨w.heap.size + 1 + 1 + 1 + 1 + 1, 0, none⟩), .pointer (some ⟨w.heap.size + 1 + 1 + 1 + 1 + 1 + 1, 0, none⟩), .pointer (some ⟨w.heap.size + 1 + 1 + 1 + 1, 0, none⟩), .pointer (some ⟨w.heap.size + 1 + 1 + 1 + 1 + 1 + 1 + 1, 0, none⟩)]) rfl trivial (enters_of Try.func42 (by kernel_rfl) rfl)
    (look_stops 2 (by decide) (w.heap.size + 1 + 1 + 1 + 1 + 1) (w.heap.size + 1 + 1 + 1 + 1 + 1 + 1) (w.heap.size + 1 + 1 + 1 + 1) (w.heap.size + 1 + 1 + 1 + 1 + 1 + 1 + 1) (fun k => k < w4.heap.size ∧ k ≠ w.heap.size + 1 ∧ k ≠ w.heap.size + 1 + 1) v0 v1 v2 A c fs (some ⟨w.heap.size + 1 + 1 + 1, 0, none⟩) 1 [q] term known w w4 (by omega) (by omega) (by omega) (by omega) hw4 (fun k hk => ⟨by omega, by omega, by omega⟩) ⟨by omega, by omega, by omega⟩ ⟨by omega, by omega, by omega⟩ ⟨by omega, by omega, by omega⟩ ⟨by omega, by omega, by omega⟩ dK dT dW dN HR.out hc hkeys (Nat.le_refl _)) keep_t (keep_b (fun k hk => hk.1)) (Below.refl _ _) (fun _ => rfl)
    (AInv w w4.heap.size fs term known)
    (fun _ _ _ => False)
    (AInv.own w w4.heap.size fs term known (by omega))
    (fun _ _ _ _ _ hs _ _ => hs)
    ⟨_, fun _ => rfl, b2, World.ownsRow_nil _ _ _ _, b1, hw4, Nat.le_refl _⟩
    (fun x a' W => ∃ Bx, W.heap[Bx]? = some (.cells #[.int .i64 x.2.f0, .int .i64 x.2.f1, .int .i64 x.2.f2, .int .i64 term, .int .i64 (wrap64 (term + 1)), .int .i64 (lookL fs x.2 term known)] 72 (0, 0)) ∧ w4.heap.size ≤ Bx ∧ a' = { tmps := #[.agg #[v0, v1, v2, .slice A fs.length c], .int .i64 q.f0, .int .i64 q.f1, .int .i64 q.f2, .int .i64 term, .int .i64 known, .pointer (some ⟨w.heap.size, 0, none⟩), undef, undef, undef, undef, undef, .pointer (some ⟨w.heap.size + 1, 0, none⟩), .bool false, .pointer (some ⟨w.heap.size + 1 + 1, 0, none⟩), undef, .pointer (some ⟨Bx, 0, none⟩), .agg #[v0, v1, v2, .slice A fs.length c], .int .i64 q.f0, .int .i64 q.f1, .int .i64 q.f2, .agg #[.int .i64 q.f0, .int .i64 q.f1, .int .i64 q.f2], .slice (some ⟨w.heap.size + 1 + 1 + 1, 0, none⟩) 1 1, .int .i64 term, .int .i64 known, .func (.func 42) #[] #[.pointer (some ⟨w.heap.size + 1 + 1 + 1 + 1 + 1, 0, none⟩), .pointer (some ⟨w.heap.size + 1 + 1 + 1 + 1 + 1 + 1, 0, none⟩), .pointer (some ⟨w.heap.size + 1 + 1 + 1 + 1, 0, none⟩), .pointer (some ⟨w.heap.size + 1 + 1 + 1 + 1 + 1 + 1 + 1, 0, none⟩)], .int .i64 (x.1 : Int), .agg #[.int .i64 x.2.f0, .int .i64 x.2.f1, .int .i64 x.2.f2, .int .i64 term, .int .i64 (wrap64 (term + 1)), .int .i64 (lookL fs x.2 term known)], undef, undef, undef, undef, undef, undef, undef, undef, undef, undef, undef, undef], defers := [] })
    (fun x a' _ X Y row hs hg hr => by
      obtain ⟨Bx, h2, h4, h3⟩ := hs
      exact ⟨Bx, cells_turn h2 hg (fun r e => (hr r e).2), h4, h3⟩)
    ?assign ?body ?done ?stop
  case assign =>
    clear hz4 b1 b2 b3 dW dK dT dN hkeys
    rintro l pre x W K ⟨v, h0, h1, h2, h3, hB, hM⟩ hK
    have HM := Lib.hid hM
    clear hM
    dsimp only [encX]
    gi_wp2
    exact hK _ _ ((KeepsOthers.alloc _ _).from _) ((Keep.refl _ W).alloc _) ⟨v, h0, blk_alloc h1 _, h2.alloc _, blk_alloc h3 _, hB.alloc hB.size _, by have := HM.out; simp; omega⟩ ⟨W.heap.size, heap_alloc_new W _, HM.out, rfl⟩
  case body =>
    clear hz4 b1 b2 b3 dW dK dT dN hkeys
    rintro l pre x a' W hl ⟨r, hr⟩ ⟨v, h0, h1, h2, h3, hB, hM⟩ ⟨Bx, hX, hBx, rfl⟩ hlen
    have hlen1 : pre.length < 1 := hlen
    have hpre : pre = [] := List.length_eq_zero_iff.1 (by omega)
    subst hpre
    obtain rfl := h0 rfl
    gi_wp2
    refine a3_ (by kernel_rfl) w4.heap.size hM hX h1 h3 (by omega) (by have := HZZ.out; omega) (fun sl v' w1 hown hb => ?_)
    have hz := HZZ.out
    have hv : ∀ k, v'.ownBlock = some k → w4.heap.size ≤ k := fun k hk => (row_lt hown k hk).1
    have g1 := blk_below h3 hb
    have g2 := blk_below h1 hb
    gi_wp2
    have n12 : w.heap.size + 1 ≠ w.heap.size + 1 + 1 := by omega
    have g3 := (Below.heap_setCell w1 ⟨w.heap.size + 1, 0, none⟩ (.int .i64 (mx (lookL fs x.2 term known) 0)) _ n12.symm).trans g2
    have g4 := blk_put (cs := #[.int .i64 (valP fs term known [])]) g1 0 (.int .i64 (mx (lookL fs x.2 term known) 0)) rfl
    refine ⟨?_, ?_, v', fun h => (by cases h), ?_, ?_, ?_, ?_, ?_⟩
    · exact (KeepsFrom.trans ⟨hb.size, fun i o _ hi _ => (hb.block i (Array.getElem?_eq_some_iff.1 hi).1).trans hi⟩ ((KeepsOthers.setCell _ _ _).from _)).trans ((KeepsOthers.setCell _ _ _).from _)
    · exact ((Keep.of_below hb).setCell (p := ⟨w.heap.size + 1, 0, none⟩) (.inr (fun hs => hs.2.1 rfl)) _).setCell (p := ⟨w.heap.size + 1 + 1, 0, none⟩) (.inr (fun hs => hs.2.2 rfl)) _
    · exact blk_put g3 0 v' rfl
    · exact row_setBox (B := w.heap.size + 1 + 1) g3 (by decide) (row_setBox (B := w.heap.size + 1) g1 (by decide) hown _) _
    · exact (Below.heap_setCell _ ⟨w.heap.size + 1 + 1, 0, none⟩ _ _ n12).trans g4
    · exact ((below_step hB hb).setCell (p := ⟨w.heap.size + 1, 0, none⟩) (by simp) _).setCell (p := ⟨w.heap.size + 1 + 1, 0, none⟩) (by simp; omega) _
    · have := hb.size
      simp [World.setCell]
      omega
  case done =>
    clear hz4 b1 b2 b3 dW dK dT dN hkeys
    rintro D ys W hD hys ⟨v, h0, h1, h2, h3, hB, hM⟩ hK
    obtain rfl : ys = [(0, q)] := hys
    obtain ⟨A', C', rfl⟩ := row_slice h2
    have c1 : W.cell? ⟨w.heap.size + 1, 0, none⟩ = some (.int .i64 (mx (lookL fs q term known) 0)) := blk_cell h3 0
    have c2 : W.cell? ⟨w.heap.size + 1 + 1, 0, none⟩ = some (.slice A' 1 C') := blk_cell h1 0
    have f1 := blk_frozen h3 0
    have f2 := blk_frozen h1 0
    have I1 := Lib.hid h1
    have I2 := Lib.hid h2
    have I3 := Lib.hid h3
    have I4 := Lib.hid hB
    have I7 := Lib.hid hK
    have n12 : w.heap.size + 1 ≠ w.heap.size + 1 + 1 := by omega
    have n21 := n12.symm
    clear h1 h2 h3 hB hK h0
    gi_wp2
    gi_region
    all_goals gi_wp2
    all_goals refine active_end hD (by have := HZZ.out; omega) (blk_put (cs := #[.slice A' 1 C']) ((Below.heap_setCell W ⟨w.heap.size + 1, 0, none⟩ _ _ n21).trans I1.out) 0 _ rfl) (row_setBox (B := w.heap.size + 1 + 1) ((Below.heap_setCell W ⟨w.heap.size + 1, 0, none⟩ _ _ n21).trans I1.out) (by decide) (row_setBox (B := w.heap.size + 1) I3.out (by decide) I2.out _) _) ((Below.heap_setCell _ ⟨w.heap.size + 1 + 1, 0, none⟩ _ _ n12).trans (blk_put (cs := #[.int .i64 (valP fs term known [(0, q)])]) I3.out 0 _ rfl)) ((I4.out.setCell (p := ⟨w.heap.size + 1, 0, none⟩) (by simp) _).setCell (p := ⟨w.heap.size + 1 + 1, 0, none⟩) (by simp; omega) _) ?_ ?_ ?_ ?_
    all_goals first | rfl | exact (Below.heap_setCell _ ⟨w.heap.size + 1 + 1, 0, none⟩ _ _ (by have := HZZ.out; simp; omega)).trans ((Below.heap_setCell _ ⟨w.heap.size + 1, 0, none⟩ _ _ (by have := HZZ.out; simp; omega)).trans I7.out)
  case stop =>
    rintro D c pre W _ _ h _
    exact h.elim
end
def petitions_Active.f (l0_0 : List (S121)) (l0_1 : List (S126)) (l0_2 : List (S131)) (l0_3 : List (S28)) (a1 : Int) (a2 : Int) (a3 : Int) (a4 : Int) (a5 : Int) : Option (Int × Bool × (List (S70))) := some (mx (lookL l0_3 ⟨a1, a2, a3⟩ a4 a5) 0, decide (0 < mx (lookL l0_3 ⟨a1, a2, a3⟩ a4 a5) 0), [readL ⟨a1, a2, a3⟩ a4])
theorem petitions_Active.calls (A0_0 : Option Addr) (c0_0 : Nat) (l0_0 : List (S121)) (A0_1 : Option Addr) (c0_1 : Nat) (l0_1 : List (S126)) (A0_2 : Option Addr) (c0_2 : Nat) (l0_2 : List (S131)) (A0_3 : Option Addr) (c0_3 : Nat) (l0_3 : List (S28)) (a1 : Int) (a2 : Int) (a3 : Int) (a4 : Int) (a5 : Int) (r1 : Int) (r2 : Bool) (r3 : List (S70)) (w : World) (hr0_0 : Kd.C k121 w A0_0 l0_0.length l0_0) (hc0_0 : l0_0.length ≤ c0_0) (hr0_1 : Kd.C k126 w A0_1 l0_1.length l0_1) (hc0_1 : l0_1.length ≤ c0_1) (hr0_2 : Kd.C k131 w A0_2 l0_2.length l0_2) (hc0_2 : l0_2.length ≤ c0_2) (hr0_3 : Kd.C k28 w A0_3 l0_3.length l0_3) (hc0_3 : l0_3.length ≤ c0_3) (h : petitions_Active.f l0_0 l0_1 l0_2 l0_3 a1 a2 a3 a4 a5 = some (r1, r2, r3)) :
    Calls Try.prog 14 #[.agg #[.slice A0_0 l0_0.length c0_0, .slice A0_1 l0_1.length c0_1, .slice A0_2 l0_2.length c0_2, .slice A0_3 l0_3.length c0_3], .int .i64 a1, .int .i64 a2, .int .i64 a3, .int .i64 a4, .int .i64 a5] w fun e w' => ∃ v2_ : Value, e = .returned (.tuple #[.int .i64 r1, .bool r2, v2_]) ∧ Kd.R k70 70 w' w.heap.size (fun _ => True) v2_ r3 ∧ Below w.heap.size w w' := by
  have h2 := Option.some.inj h
  simp only [Prod.mk.injEq] at h2
  obtain ⟨rfl, rfl, rfl⟩ := h2
  exact callsIn_wide.1 (active_in (.slice A0_0 l0_0.length c0_0) (.slice A0_1 l0_1.length c0_1) (.slice A0_2 l0_2.length c0_2) A0_3 c0_3 l0_3 ⟨a1, a2, a3⟩ a4 a5 w hr0_3 hc0_3)
/-! ### petitions_Active: function 14 -/
--import Derived.Test.YtbnaecdeocbkpaaAc
/- The walk lies in the text Ac:
def petitions_Active.f
theorem petitions_Active.calls
-/
--import Derived.Test.YtbnaecdeocbkpaaAc
section
open Go.Shelf Go.Proofs.Ytbnaecdeocbkpaa.Rng
theorem info26' : ∃ z, (Try.prog.info? 26).map (fun i => (i.zero, i.size, i.bytes)) = some (some (.agg z), 3, 24) ∧ z.size = 3 := ⟨#[.int .i64 0, .int .i64 0, .int .i64 0], by kernel_rfl, rfl⟩
/-- 'x = append(x, o)' where x lies in the box B and a row of another type in the box B2. -/
theorem appendedX {W w1 : World} {M n₀ B B2 : Nat} {S : Nat → Prop} {t e t2 e2 : TypeId} {size size2 k m k2 : Nat} {v v2 v' : Value} {xs ys xs2 : List Value} {tmp : Obj}
    (hB : Boxed W B t v) (hB2 : Boxed W B2 t2 v2) (hBB : B ≠ B2) (hte : t ≠ e) (hte2 : t ≠ e2) (ht2e : t2 ≠ e) (hee : e2 ≠ e) (hr : W.ownsRow M e size v k xs) (hr2 : W.ownsRow M e2 size2 v2 k2 xs2)
    (hM : M ≤ W.heap.size) (hn : n₀ ≤ M) (hnB : n₀ ≤ B) (hS : ∀ k, S k → k < M) (hSB : ¬ S B)
    (hown : w1.ownsRow M e size v' m ys) (hgrow : (W.alloc tmp).grownBy w1 v.ownBlock) :
    Boxed w1 B t v ∧ Boxed w1 B2 t2 v2 ∧ (KeepsFrom M W (w1.setCell ⟨B, 0, none⟩ v') ∧ Keep S W (w1.setCell ⟨B, 0, none⟩ v') ∧ Boxed (w1.setCell ⟨B, 0, none⟩ v') B t v' ∧ Boxed (w1.setCell ⟨B, 0, none⟩ v') B2 t2 v2 ∧
      (w1.setCell ⟨B, 0, none⟩ v').ownsRow M e size v' m ys ∧ (w1.setCell ⟨B, 0, none⟩ v').ownsRow M e2 size2 v2 k2 xs2 ∧ Below n₀ W (w1.setCell ⟨B, 0, none⟩ v') ∧ M ≤ (w1.setCell ⟨B, 0, none⟩ v').heap.size) := by
  have hb1 : Boxed w1 B t v := (hB.alloc tmp).kept hgrow ((hB.alloc tmp).not_row hte (hr.alloc tmp))
  have hb2 : Boxed w1 B2 t2 v2 := (hB2.alloc tmp).kept hgrow ((hB2.alloc tmp).not_row ht2e (hr.alloc tmp))
  have hgs := grownBy_setCell' w1 B v'
  have hvM : ∀ k, v.ownBlock = some k → M ≤ k := fun k hk => (row_lt hr k hk).1
  have hr2' : w1.ownsRow M e2 size2 v2 k2 xs2 := by
    refine (hr2.alloc tmp).kept hgrow ?_
    cases h : v2.ownBlock with
    | none => exact .inl rfl
    | some q => exact .inr (fun he => by
        obtain ⟨_, _, cs, hcs⟩ := row_lt hr2 q h
        obtain ⟨_, _, cs', hcs'⟩ := row_lt hr q he.symm
        rw [hcs] at hcs'
        simp at hcs'
        exact hee hcs'.2)
  refine ⟨hb1, hb2, ?_, ?_, hb1.set v', hb2.kept hgs (fun h => hBB (by injection h with h; exact h.symm)), hown.kept hgs (.inr (hb1.not_row hte hown).symm), hr2'.kept hgs (.inr (hb1.not_row hte2 hr2').symm), ?_, ?_⟩
  · refine KeepsFrom.trans ((KeepsOthers.alloc W tmp).from _) (KeepsFrom.trans (KeepsOthers.from (KeepsOthers.of_grownBy hgrow fun j o ej hj => ?_) _) ((KeepsOthers.setCell _ _ _).from _))
    obtain ⟨_, _, cs, hcs⟩ := row_lt (hr.alloc tmp) j ej
    rw [hcs] at hj
    cases hj
    rfl
  · exact (((Keep.refl S W).alloc tmp).grown hgrow (fun k hk => .inr (fun hs => by have := hvM k hk; have := hS k hs; omega))).setCell (.inr hSB) v'
  · refine (((Below.refl n₀ W).alloc (by omega) tmp).grown hgrow (by simp; omega) fun j ej => ?_).setCell (p := ⟨B, 0, none⟩) hnB v'
    have := hvM j ej
    omega
  · have h1 := hgrow.size
    have h2 := hgs.size
    simp at h1
    omega
theorem news_one (W : World) (g : Nat) (hg : W.heap.size = g) (v : Value) (t : TypeId) : ∀ j u, ([v] : List Value)[j]? = some u → (W.alloc (.cells #[v] t)).cell? ((⟨g, 0, none⟩ : Addr).add j) = some u := by
  subst hg
  have := World.news_of_block (cs := ([v] : List Value).toArray) (t := t) (fr := (0, 0)) (heap_alloc_new W (.cells ([v] : List Value).toArray t))
  simpa using this
def keysP (a1 a2 : Int) (k : Nat) : List S26 := (List.range k).map (fun (n : Nat) => (⟨a1, a2, (n : Int)⟩ : S26))
theorem keysP_succ (a1 a2 : Int) (k : Nat) : keysP a1 a2 (k + 1) = keysP a1 a2 k ++ [⟨a1, a2, (k : Int)⟩] := by
  unfold keysP
  rw [List.range_succ, List.map_append]
  rfl
theorem keysP_len (a1 a2 : Int) (k : Nat) : (keysP a1 a2 k).length = k := by simp [keysP]
def onesP (fs : List S28) (term known : Int) (pre : List (Nat × S26)) : List Int := (pre.filter (fun x => lookL fs x.2 term known == 1)).map (fun x => (x.1 : Int))
theorem onesP_no {fs : List S28} {term known : Int} {pre : List (Nat × S26)} {x : Nat × S26} (h : (lookL fs x.2 term known == 1) = false) : onesP fs term known (pre ++ [x]) = onesP fs term known pre := by simp [onesP, h]
theorem onesP_yes {fs : List S28} {term known : Int} {pre : List (Nat × S26)} {x : Nat × S26} (h : (lookL fs x.2 term known == 1) = true) : onesP fs term known (pre ++ [x]) = onesP fs term known pre ++ [(x.1 : Int)] := by simp [onesP, h]
theorem onesP_le (fs : List S28) (term known : Int) (pre : List (Nat × S26)) : (onesP fs term known pre).length ≤ pre.length := by
  unfold onesP
  rw [List.length_map]
  exact List.length_filter_le _ _
/-- While the keys are laid out. -/
structure KInv (w : World) (b0 : Obj) (a1 a2 : Int) (k : Nat) (A : Option Addr) (c : Nat) (W : World) : Prop where
  row : W.ownsRow (w.heap.size + 3) 26 3 (.slice A k c) k ((keysP a1 a2 k).flatMap enc26)
  b0 : W.heap[w.heap.size]? = some b0
  b1 : W.heap[w.heap.size + 1]? = some (.cells #[.slice none 0 0] 47 (0, 0))
  b2 : W.heap[w.heap.size + 1 + 1]? = some (.cells #[.slice none 0 0] 42 (0, 0))
  below : Below w.heap.size w W
  size : w.heap.size + 3 ≤ W.heap.size
theorem KInv.put {w : World} {b0 : Obj} {a1 a2 : Int} {k : Nat} {A A' : Option Addr} {c c' : Nat} {W w1 : World} {tmp : Obj} (h : KInv w b0 a1 a2 k A c W) (ho : w1.ownsRow (w.heap.size + 3) 26 3 (.slice A' (k + 1) c') (k + 1) ((keysP a1 a2 k).flatMap enc26 ++ enc26 ⟨a1, a2, (k : Int)⟩)) (hg : (W.alloc tmp).grownBy w1 (Value.slice A k c).ownBlock) : KInv w b0 a1 a2 (k + 1) A' c' w1 := by
  obtain ⟨h1, h2, h3, h4, h5, h6⟩ := h
  have hv : ∀ j, (Value.slice A k c).ownBlock = some j → w.heap.size + 3 ≤ j := fun j hj => (row_lt h1 j hj).1
  have hk : ∀ j o, j < w.heap.size + 3 → W.heap[j]? = some o → w1.heap[j]? = some o := fun j o hj ho => (hg.block j (by simp; omega) (fun e => by have := hv j e.symm; omega)).trans (blk_alloc ho tmp)
  refine ⟨?_, hk _ _ (by omega) h2, hk _ _ (by omega) h3, hk _ _ (by omega) h4, ((h5.alloc h5.size tmp).grown hg (by simp; omega) fun j ej => by have := hv j ej; omega), ?_⟩
  · rw [keysP_succ, List.flatMap_append]
    simpa using ho
  · have := hg.size
    simp at this
    omega
/-- Between two rounds. -/
def OInv (w : World) (M : Nat) (fs : List S28) (term known : Int) (pre : List (Nat × S26)) (W : World) : Prop :=
  ∃ v1 v2 : Value, Boxed W (w.heap.size + 1) 47 v1 ∧ Boxed W (w.heap.size + 1 + 1) 42 v2 ∧ W.ownsRow M 3 1 v1 (onesP fs term known pre).length ((onesP fs term known pre).map (Value.int .i64)) ∧ W.ownsRow M 70 5 v2 pre.length (pre.flatMap fun x => enc70 (readL x.2 term)) ∧ Below w.heap.size w W ∧ M ≤ W.heap.size
theorem OInv.own (w : World) (M : Nat) (fs : List S28) (term known : Int) (hM : w.heap.size ≤ M) : OwnFrom M (OInv w M fs term known) := by
  rintro s X Y row ⟨v1, v2, h1, h2, h3, h4, h5, h6⟩ hg hr
  have hr' := fun r e => (hr r e).2
  exact ⟨v1, v2, box_turn h1 hg hr', box_turn h2 hg hr', row_turn h3 hg hr', row_turn h4 hg hr', h5.grown hg (Nat.le_trans hM h6) (fun k e => Nat.le_trans hM (hr k e).1), Nat.le_trans h6 hg.size⟩
end
section
open Go.Shelf Go.Proofs.Ytbnaecdeocbkpaa.Rng
attribute [local go_sem] Oper.semAt_some
def OfEnd (w : World) (r1 : List Int) (r2 : List S70) (e : Ending) (w' : World) : Prop := ∃ v0_ v1_ : Value, e = .returned (.tuple #[v0_, v1_]) ∧ Kd.R (Kd.int .i64) 3 w' w.heap.size (fun _ => True) v0_ r1 ∧ Kd.R k70 70 w' w.heap.size (fun _ => True) v1_ r2 ∧ Below w.heap.size w w'
theorem of_end {F : Fence} {n : Nat} {w W : World} {M D : Nat} {A1 A2 : Option Addr} {C1 C2 : Nat} {os : List Int} {rs : List S70} {tm : Array Value} (hD : M ≤ D) (hM : w.heap.size + 3 ≤ M)
    (b1 : W.heap[w.heap.size + 1]? = some (.cells #[.slice A1 os.length C1] 47 (0, 0))) (b2 : W.heap[w.heap.size + 1 + 1]? = some (.cells #[.slice A2 rs.length C2] 42 (0, 0))) (r1 : W.ownsRow M 3 1 (.slice A1 os.length C1) os.length (os.map (Value.int .i64))) (r2 : W.ownsRow M 70 5 (.slice A2 rs.length C2) rs.length (rs.flatMap enc70)) (hB : Below w.heap.size w W) (hK : W.heap[D]? = some (.deferred (some [])))
    (h10 : tm.getD 10 undef = .pointer (some ⟨w.heap.size + 1, 0, none⟩)) (h11 : tm.getD 11 undef = .pointer (some ⟨w.heap.size + 1 + 1, 0, none⟩)) :
    bodyPostM F n Try.prog Try.f31 (OfEnd w os rs) Exit.ret { tmps := tm, defers := [{ target := Target.collected D, args := #[] }] } W.drew := by
  refine ⟨by simp, .inl ⟨_, _, rfl, run_takeDeferred (w := W.drew) hK, ?_⟩⟩
  have hg : W.drew.grownBy (W.drew.putObj D (.deferred none)) (some D) := grownBy_putObj' W.drew D _
  have hr : ∀ r, some D = some r → ∃ o : Obj, W.drew.heap[r]? = some o ∧ o.isCells = false := fun r e => by
    injection e with e
    subst e
    exact ⟨_, hK, rfl⟩
  have c1 := blk_cell (cells_turn (W := W.drew) b1 hg hr) 0
  have c2 := blk_cell (cells_turn (W := W.drew) b2 hg hr) 0
  have q1 := row_turn (W := W.drew) r1 hg hr
  have q2 := row_turn (W := W.drew) r2 hg hr
  refine ⟨.tuple #[.slice A1 os.length C1, .slice A2 rs.length C2], ?_, ⟨_, _, rfl, ?_, ?_, ?_⟩⟩
  · have h10' : tm[10]?.getD undef = .pointer (some ⟨w.heap.size + 1, 0, none⟩) := by simpa using h10
    have h11' : tm[11]?.getD undef = .pointer (some ⟨w.heap.size + 1 + 1, 0, none⟩) := by simpa using h11
    have c1' : (W.drew.putObj D (.deferred none)).cell? ⟨w.heap.size + 1, 0, none⟩ = some (.slice A1 os.length C1) := c1
    have c2' : (W.drew.putObj D (.deferred none)).cell? ⟨w.heap.size + 1 + 1, 0, none⟩ = some (.slice A2 rs.length C2) := c2
    clear c1 c2
    simp [results, Try.f31, h10', h11', go_sem, c1', c2']
  · exact Kd.R_lower (Kd.R_of_own (enc := Value.int .i64) (h1 := fun _ => rfl) q1 (fun k _ => trivial)) (by omega)
  · exact Kd.R_lower (R_of_flat70 q2 (fun k _ => trivial)) (by omega)
  · exact hB.drew.grown hg hB.size (fun k e => by injection e with e; omega)
set_option maxRecDepth 100000 in
set_option maxHeartbeats 8000000 in
theorem ofint_in (v0 v1 v2 : Value) (A : Option Addr) (c : Nat) (fs : List S28) (a1 a2 term known : Int) (w : World) (hr : Kd.C k28 w A fs.length fs) (hc : fs.length ≤ c) :
    CallsIn Fence.wide 3 Try.prog 31 #[.agg #[v0, v1, v2, .slice A fs.length c], .int .i64 a1, .int .i64 a2, .int .i64 term, .int .i64 known] w (OfEnd w (onesP fs term known (seqK (keysP a1 a2 8) 8)) ((seqK (keysP a1 a2 8) 8).map (fun x => readL x.2 term))) := by
  have h29 : Fence.wide.fn 29 := trivial
  have hu41 := Try.underlying41
  have hu26 := Try.underlying26
  have hu70 := Try.underlying70
  have hu72 := Try.underlying72
  have HR := Lib.hid hr
  clear hr
  refine callsIn_of_wp_marks Try.func31 rfl trivial ?_ rfl
  simp only [Try.ntmps31, List.size_toArray, List.length_cons, List.length_nil, Nat.reduceAdd, Nat.reduceSub, Array.replicate_succ, Array.replicate_zero, List.push_toArray, List.append_toArray, List.nil_append, List.cons_append]
  gi_wp2
  gi_loopw [12, 16] (fun vk vi wr => ∃ k : Nat, k ≤ 8 ∧ vi = .int .i64 k ∧ ∃ Ak ck, vk = .slice Ak k ck ∧ Aside0 (KInv w (.cells #[v0, v1, v2, .slice A fs.length c] 41 (0, 0)) a1 a2 k Ak ck wr)) (fun vk vi _ => 8 - (intOf vi).toNat)
  case atStart =>
    obtain ⟨q0, q1, q2, q3⟩ := three_boxes' (w5 := w) (.cells #[v0, v1, v2, .slice A fs.length c] 41) (.cells #[.slice none 0 0] 47) (.cells #[.slice none 0 0] 42)
    exact ⟨0, Nat.zero_le _, rfl, none, 0, rfl, ⟨World.ownsRow_nil _ _ _ _, q0, q1, q2, (((Below.refl _ w).alloc (Nat.le_refl _) _).alloc (by simp) _).alloc (by simp; omega) _, by rw [q3]; exact Nat.le_refl _⟩⟩
  case round =>
    obtain ⟨k, hk, rfl, Ak, ck, rfl, HW⟩ := hrel
    by_cases hlt : k < 8
    · have hw1 : IntKind.i64.wrap ((k : Int) + 1) = (k : Int) + 1 := (i64_w _).trans (by unfold wrap64; omega)
      have hkz : (k : Int) < 8 := by omega
      obtain ⟨z0, hinf, hzz⟩ := info26'
      obtain ⟨i0, hi0, hz0, hz1, hz2⟩ := info_parts hinf
      have hnews : ∀ j u, (enc26 ⟨a1, a2, (k : Int)⟩)[j]? = some u → (wr.alloc (.cells #[.int .i64 a1, .int .i64 a2, .int .i64 k] 26)).cell? ((⟨wr.heap.size, 0, none⟩ : Addr).add j) = some u := by
        have := World.news_of_block (cs := (enc26 ⟨a1, a2, (k : Int)⟩).toArray) (t := 26) (fr := (0, 0)) (heap_alloc_new wr (.cells (enc26 ⟨a1, a2, (k : Int)⟩).toArray 26))
        simpa [enc26] using this
      have HN := Lib.hid hnews
      clear hnews hinf
      gi_wp2_with (gi_at_builtin; refine wpListIn_append_own_at _ rfl _ _ 68 rfl (w.heap.size + 3) 26 i0 _ 3 24 Try.underlying68 hi0 hz0 hz1 hz2 hzz (by decide) _ _ _ rfl (HW.out.row.alloc _) ⟨wr.heap.size, 0, none⟩ 1 1 (enc26 ⟨a1, a2, (k : Int)⟩) rfl rfl HN.out (enc26_one _) (by unfold maxLen; omega) (by omega) (by have := HW.out.size; simp; omega) ?_; intro v' w1 hown' hgrow hat; obtain ⟨A', c', rfl⟩ := row_slice hown'; have HA := Aside0.mk (HW.out.put hown' hgrow); clear hown' hgrow hat)
      exact ⟨⟨k + 1, by omega, by simp, _, _, rfl, HA⟩, by simp [intOf]; omega⟩
    · obtain rfl : k = 8 := by omega
      have cw0 : wr.cell? ⟨w.heap.size, 0, none⟩ = some v0 := blk_cell HW.out.b0 0
      have cw1 : wr.cell? ⟨w.heap.size, 1, none⟩ = some v1 := blk_cell HW.out.b0 1
      have cw2 : wr.cell? ⟨w.heap.size, 2, none⟩ = some v2 := blk_cell HW.out.b0 2
      have cw3 : wr.cell? ⟨w.heap.size, 3, none⟩ = some (.slice A fs.length c) := blk_cell HW.out.b0 3
      gi_wp2_with (gi_at_call 29; refine (look_in Fence.wide 2 trivial rfl v0 v1 v2 A fs.length c Ak 8 ck term known _).mono ?_; rintro e w4 ⟨rfl, hw4⟩; clear cw0 cw1 cw2 cw3)
      obtain ⟨w8, hw8⟩ : ∃ w8, w8 = wr := ⟨_, rfl⟩
      subst hw8
      have dd := four_boxes (w5 := w8) (.cells #[v0, v1, v2, .slice A fs.length c] 41) (.cells #[.slice Ak 8 ck] 68) (.cells #[.int .i64 term] 3) (.cells #[.int .i64 known] 3)
      have hb4 : Below w8.heap.size w8 ((((w8.alloc (.cells #[v0, v1, v2, .slice A fs.length c] 41)).alloc (.cells #[.slice Ak 8 ck] 68)).alloc (.cells #[.int .i64 term] 3)).alloc (.cells #[.int .i64 known] 3)) := ((((Below.refl _ w8).alloc (Nat.le_refl _) _).alloc (by simp) _).alloc (by simp; omega) _).alloc (by simp; omega) _
      rw [← hw4] at dd hb4 ⊢
      clear hw4
      obtain ⟨dW, dK, dT, dN, hz4⟩ := dd
      have b1 := blk_below HW.out.b1 hb4
      have b2 := blk_below HW.out.b2 hb4
      have hw4 := below_step HW.out.below hb4
      have hz8 := HW.out.size
      have HZZ := Lib.hid (show w.heap.size + 7 ≤ w4.heap.size by omega)
      have hrow : w4.ownsRow (w.heap.size + 3) 26 3 (.slice Ak 8 ck) (keysP a1 a2 8).length ((keysP a1 a2 8).flatMap enc26) := by
        rw [keysP_len]
        exact HW.out.row.kept (row := none) ⟨hb4.os, hb4.tape, hb4.output, hb4.size, fun k hk _ => hb4.block k hk⟩ (by
          cases h : (Value.slice Ak 8 ck).ownBlock with
          | none => exact .inl rfl
          | some g => exact .inr (fun e => by cases e))
      have hkeys : ∀ W', Keep (fun k => k < w4.heap.size ∧ k ≠ w.heap.size + 1 ∧ k ≠ w.heap.size + 1 + 1) w4 W' → Kd.C k26 W' Ak (keysP a1 a2 8).length (keysP a1 a2 8) := fun W' hk =>
        (keys_read hrow (fun k hk' => by
          have h1 := row_lt hrow k hk'
          exact hk.block _ ⟨h1.2.1, by omega, by omega⟩ h1.2.1)).1
      have hcz : (keysP a1 a2 8).length ≤ ck := by
        have := (keys_read (W := w4) hrow (fun k hk' => rfl)).2
        rw [keysP_len]
        exact this.2
      clear hb4 hrow
      refine wpIn_rangeFunc_ownH rfl (by decide) (gf := 42) (lb := #[.pointer (some ⟨w8.heap.size + 1, 0, none⟩), .pointer (some ⟨w8.heap.size + 1 + 1, 0, none⟩), .pointer (some ⟨w8.heap.size, 0, none⟩), .pointer (some ⟨w8.heap.size + 1 + 1 + 1, 0, none⟩)]) rfl trivial (enters_of Try.func42 (by kernel_rfl) rfl)
        (look_stops 2 (by decide) (w8.heap.size + 1) (w8.heap.size + 1 + 1) w8.heap.size (w8.heap.size + 1 + 1 + 1) (fun k => k < w4.heap.size ∧ k ≠ w.heap.size + 1 ∧ k ≠ w.heap.size + 1 + 1) v0 v1 v2 A c fs Ak ck (keysP a1 a2 8) term known w w4 (by omega) (by omega) (by omega) (by omega) hw4 (fun k hk => ⟨by omega, by omega, by omega⟩) ⟨by omega, by omega, by omega⟩ ⟨by omega, by omega, by omega⟩ ⟨by omega, by omega, by omega⟩ ⟨by omega, by omega, by omega⟩ (by rw [keysP_len]; exact dK) dT dW dN HR.out hc hkeys hcz) keep_t (keep_b (fun k hk => hk.1)) (Below.refl _ _) (fun _ => rfl)
        (OInv w w4.heap.size fs term known)
        (fun _ _ _ => False)
        (OInv.own w w4.heap.size fs term known (by omega))
        (fun _ _ _ _ _ hs _ _ => hs)
        ⟨_, _, b1, b2, World.ownsRow_nil _ _ _ _, World.ownsRow_nil _ _ _ _, hw4, Nat.le_refl _⟩
        (fun x a' W => ∃ Bx, W.heap[Bx]? = some (.cells #[.int .i64 x.2.f0, .int .i64 x.2.f1, .int .i64 x.2.f2, .int .i64 term, .int .i64 (wrap64 (term + 1)), .int .i64 (lookL fs x.2 term known)] 72 (0, 0)) ∧ w4.heap.size ≤ Bx ∧ a' = { tmps := #[.agg #[v0, v1, v2, .slice A fs.length c], .int .i64 a1, .int .i64 a2, .int .i64 term, .int .i64 known, .pointer (some ⟨w.heap.size, 0, none⟩), undef, undef, undef, undef, .pointer (some ⟨w.heap.size + 1, 0, none⟩), .pointer (some ⟨w.heap.size + 1 + 1, 0, none⟩), .slice Ak 8 ck, u13, .int .i64 (x.1 : Int), .pointer (some ⟨Bx, 0, none⟩), .int .i64 8, .bool false, u18, u19, u20, u21, u22, u23, u24, u25, u26, .agg #[v0, v1, v2, .slice A fs.length c], .slice Ak 8 ck, .int .i64 term, .int .i64 known, .func (.func 42) #[] #[.pointer (some ⟨w8.heap.size + 1, 0, none⟩), .pointer (some ⟨w8.heap.size + 1 + 1, 0, none⟩), .pointer (some ⟨w8.heap.size, 0, none⟩), .pointer (some ⟨w8.heap.size + 1 + 1 + 1, 0, none⟩)], .int .i64 (x.1 : Int), .agg #[.int .i64 x.2.f0, .int .i64 x.2.f1, .int .i64 x.2.f2, .int .i64 term, .int .i64 (wrap64 (term + 1)), .int .i64 (lookL fs x.2 term known)], undef, undef, undef, undef, undef, undef, undef, undef, undef, undef, undef, undef, undef, undef], defers := [] })
        (fun x a' _ X Y row hs hg hr => by
          obtain ⟨Bx, h2, h4, h3⟩ := hs
          exact ⟨Bx, cells_turn h2 hg (fun r e => (hr r e).2), h4, h3⟩)
        ?assign ?body ?done ?stop
      case assign =>
        clear hz4 b1 b2 dW dK dT dN hkeys hz8
        rintro l pre x W K ⟨p1, p2, h1, h2, h3, h4, hB, hM⟩ hK
        have HM := Lib.hid hM
        clear hM
        dsimp only [encX]
        gi_wp2
        exact hK _ _ ((KeepsOthers.alloc _ _).from _) ((Keep.refl _ W).alloc _) ⟨p1, p2, blk_alloc h1 _, blk_alloc h2 _, h3.alloc _, h4.alloc _, hB.alloc hB.size _, by have := HM.out; simp; omega⟩ ⟨W.heap.size, heap_alloc_new W _, HM.out, rfl⟩
      case body =>
        clear hz4 b1 b2 dW dK dT dN hkeys hz8
        rintro l pre x a' W hl ⟨r, hr⟩ ⟨p1, p2, h1, h2, h3, h4, hB, hM⟩ ⟨Bx, hX, hBx, rfl⟩ hlen
        rw [keysP_len] at hlen
        obtain ⟨i0, hi0, hz0, hz1, hz2⟩ := info_parts info70
        obtain ⟨i3, hi3, hy0, hy1, hy2⟩ := info_parts info3
        have c2 : W.cell? ⟨w.heap.size + 1 + 1, 0, none⟩ = some p2 := blk_cell h2 0
        have cx0 : W.cell? ⟨Bx, 0, none⟩ = some (.int .i64 x.2.f0) := blk_cell hX 0
        have cx1 : W.cell? ⟨Bx, 1, none⟩ = some (.int .i64 x.2.f1) := blk_cell hX 1
        have cx2 : W.cell? ⟨Bx, 2, none⟩ = some (.int .i64 x.2.f2) := blk_cell hX 2
        have cx3 : W.cell? ⟨Bx, 3, none⟩ = some (.int .i64 term) := blk_cell hX 3
        have cx4 : W.cell? ⟨Bx, 4, none⟩ = some (.int .i64 (wrap64 (term + 1))) := blk_cell hX 4
        have lX := blk_lt hX
        have hnews : ∀ j u, (enc70 (readL x.2 term))[j]? = some u → (W.alloc (.cells #[.int .i64 x.2.f0, .int .i64 x.2.f1, .int .i64 x.2.f2, .int .i64 term, .int .i64 (wrap64 (term + 1))] 70)).cell? ((⟨W.heap.size, 0, none⟩ : Addr).add j) = some u := by
          have := World.news_of_block (cs := (enc70 (readL x.2 term)).toArray) (t := 70) (fr := (0, 0)) (heap_alloc_new W (.cells (enc70 (readL x.2 term)).toArray 70))
          simpa [enc70, readL] using this
        have HN := Lib.hid hnews
        have J1 := Lib.hid h1
        have J2 := Lib.hid h2
        have J3 := Lib.hid h3
        have J4 := Lib.hid h4
        have JB := Lib.hid hB
        have JM := Lib.hid hM
        have JX := Lib.hid hX
        have JBx := Lib.hid hBx
        have nB : Bx ≠ w.heap.size + 1 + 1 := by have := HZZ.out; omega
        have nB' := nB.symm
        clear hnews h1 h2 h3 h4 hB hM hX hBx hl hr r
        by_cases hq : lookL fs x.2 term known = 1
        · have n12 : w.heap.size + 1 ≠ w.heap.size + 1 + 1 := by omega
          have n21 := n12.symm
          have hqb : (lookL fs x.2 term known == 1) = true := by simpa using hq
          have hqd : decide (lookL fs x.2 term known = 1) = true := decide_eq_true hq
          have hle := onesP_le fs term known pre
          gi_wp2_with first
            | (gi_at_builtin; refine wpListIn_append_own_at _ rfl _ _ 42 rfl w4.heap.size 70 i0 _ 5 40 Try.underlying42 hi0 hz0 hz1 hz2 rfl (by decide) _ _ _ rfl (J4.out.alloc _) ⟨W.heap.size, 0, none⟩ 1 1 (enc70 (readL x.2 term)) rfl rfl HN.out (enc70_one _) (by unfold maxLen; omega) (by omega) (by have := JM.out; simp; omega) ?_; intro v' w1 hown' hgrow hat; obtain ⟨A', c', rfl⟩ := row_slice hown'; have hap := appendedX (n₀ := w.heap.size) (S := (fun k => k < w4.heap.size ∧ k ≠ w.heap.size + 1 ∧ k ≠ w.heap.size + 1 + 1)) J2.out J1.out (by omega) (by decide) (by decide) (by decide) (by decide) J4.out J3.out JM.out (by have := HZZ.out; omega) (by omega) (fun k hk => hk.1) (fun hk => hk.2.2 rfl) hown' hgrow; have HAP := Lib.hid hap; have hx1 := (hgrow.block Bx (by simp; omega) (fun e => by obtain ⟨_, _, cs, hcs⟩ := row_lt J4.out Bx e.symm; rw [JX.out] at hcs; simp at hcs)).trans (blk_alloc JX.out _); have cx5 : w1.cell? ⟨Bx, 5, none⟩ = some (.int .i64 (lookL fs x.2 term known)) := blk_cell hx1 5; have k2 : w1.cell? ⟨w.heap.size + 1 + 1, 0, none⟩ = some p2 := blk_cell hap.1 0; have kf2 := blk_frozen hap.1 0; have k1 : w1.cell? ⟨w.heap.size + 1, 0, none⟩ = some p1 := blk_cell hap.2.1 0; have HN2 := Lib.hid (news_one (w1.setCell ⟨w.heap.size + 1 + 1, 0, none⟩ (.slice A' (pre.length + 1) c')) w1.heap.size (by simp [World.setCell]) (.int .i64 (x.1 : Int)) 3); clear hown' hgrow hat hap hx1)
            | (gi_at_builtin; refine wpListIn_append_own_at _ rfl _ _ 47 rfl w4.heap.size 3 i3 _ 1 8 Try.underlying47 hi3 hy0 hy1 hy2 rfl (by decide) _ _ _ rfl (HAP.out.2.2.2.2.2.2.2.1.alloc _) ⟨w1.heap.size, 0, none⟩ 1 1 [.int .i64 (x.1 : Int)] rfl rfl HN2.out (fun u hu => by rw [List.mem_singleton.1 hu]; rfl) (by unfold maxLen; omega) (by omega) (by have := HAP.out.2.2.2.2.2.2.2.2.2; rw [World.size_alloc]; omega) ?_; intro v3 w2 hown2 hgrow2 hat2; obtain ⟨A3, c3, rfl⟩ := row_slice hown2; have HA2 := Lib.hid (appendedX (n₀ := w.heap.size) (S := (fun k => k < w4.heap.size ∧ k ≠ w.heap.size + 1 ∧ k ≠ w.heap.size + 1 + 1)) HAP.out.2.2.2.2.2.1 HAP.out.2.2.2.2.1 (by omega) (by decide) (by decide) (by decide) (by decide) HAP.out.2.2.2.2.2.2.2.1 HAP.out.2.2.2.2.2.2.1 HAP.out.2.2.2.2.2.2.2.2.2 (by have := HZZ.out; omega) (by omega) (fun k hk => hk.1) (fun hk => hk.2.1 rfl) hown2 hgrow2); have m1 : w2.cell? ⟨w.heap.size + 1, 0, none⟩ = some p1 := blk_cell HA2.out.1 0; have mf1 := blk_frozen HA2.out.1 0; clear hown2 hgrow2 hat2)
          obtain ⟨_, _, kf, kp, bx2, bx1, rw2, rw1, bl, sz⟩ := HAP.out
          obtain ⟨_, _, kf', kp', by1, by2, ro1, ro2, bl', sz'⟩ := HA2.out
          refine ⟨kf.trans kf', kp.trans kp', _, _, by1, by2, ?_, ?_, (JB.out.trans bl).trans bl', sz'⟩
          · rw [onesP_yes hqb, List.length_append, List.map_append]
            exact ro1
          · rw [List.flatMap_append, List.length_append]
            simpa using ro2
        · have hqb : (lookL fs x.2 term known == 1) = false := by simpa using hq
          have hqd : decide (lookL fs x.2 term known = 1) = false := decide_eq_false hq
          gi_wp2_with (gi_at_builtin; refine wpListIn_append_own_at _ rfl _ _ 42 rfl w4.heap.size 70 i0 _ 5 40 Try.underlying42 hi0 hz0 hz1 hz2 rfl (by decide) _ _ _ rfl (J4.out.alloc _) ⟨W.heap.size, 0, none⟩ 1 1 (enc70 (readL x.2 term)) rfl rfl HN.out (enc70_one _) (by unfold maxLen; omega) (by omega) (by have := JM.out; simp; omega) ?_; intro v' w1 hown' hgrow hat; obtain ⟨A', c', rfl⟩ := row_slice hown'; have hap := appendedX (n₀ := w.heap.size) (S := (fun k => k < w4.heap.size ∧ k ≠ w.heap.size + 1 ∧ k ≠ w.heap.size + 1 + 1)) J2.out J1.out (by omega) (by decide) (by decide) (by decide) (by decide) J4.out J3.out JM.out (by have := HZZ.out; omega) (by omega) (fun k hk => hk.1) (fun hk => hk.2.2 rfl) hown' hgrow; have HAP := Lib.hid hap; have hx1 := (hgrow.block Bx (by simp; omega) (fun e => by obtain ⟨_, _, cs, hcs⟩ := row_lt J4.out Bx e.symm; rw [JX.out] at hcs; simp at hcs)).trans (blk_alloc JX.out _); have cx5 : w1.cell? ⟨Bx, 5, none⟩ = some (.int .i64 (lookL fs x.2 term known)) := blk_cell hx1 5; have k2 : w1.cell? ⟨w.heap.size + 1 + 1, 0, none⟩ = some p2 := blk_cell hap.1 0; have kf2 := blk_frozen hap.1 0; clear hown' hgrow hat hap hx1)
          obtain ⟨_, _, kf, kp, bx2, bx1, rw2, rw1, bl, sz⟩ := HAP.out
          refine ⟨kf, kp, _, _, bx1, bx2, ?_, ?_, JB.out.trans bl, sz⟩
          · rw [onesP_no hqb]
            exact rw1
          · rw [List.flatMap_append, List.length_append]
            simpa using rw2
      case done =>
        clear hz4 b1 b2 dW dK dT dN hkeys hz8
        rintro D ys W hD hys ⟨p1, p2, h1, h2, h3, h4, hB, hM⟩ hK
        rw [keysP_len] at hys
        subst hys
        have hlen : (seqK (keysP a1 a2 8) 8).length = ((seqK (keysP a1 a2 8) 8).map (fun x => readL x.2 term)).length := by rw [List.length_map]
        have hfl : ((seqK (keysP a1 a2 8) 8).flatMap fun x => enc70 (readL x.2 term)) = ((seqK (keysP a1 a2 8) 8).map (fun x => readL x.2 term)).flatMap enc70 := by rw [List.flatMap_map]
        rw [hfl, hlen] at h4
        obtain ⟨rs, hrs⟩ : ∃ rs, (seqK (keysP a1 a2 8) 8).map (fun x => readL x.2 term) = rs := ⟨_, rfl⟩
        obtain ⟨os, hos⟩ : ∃ os, onesP fs term known (seqK (keysP a1 a2 8) 8) = os := ⟨_, rfl⟩
        rw [hrs] at h4
        rw [hos] at h3
        have HRS := Lib.hid hrs
        have HOS := Lib.hid hos
        clear hlen hfl hrs hos
        obtain ⟨A1, C1, rfl⟩ := row_slice h3
        obtain ⟨A2, C2, rfl⟩ := row_slice h4
        have c1 : W.cell? ⟨w.heap.size + 1, 0, none⟩ = some (.slice A1 os.length C1) := blk_cell h1 0
        have c2 : W.cell? ⟨w.heap.size + 1 + 1, 0, none⟩ = some (.slice A2 rs.length C2) := blk_cell h2 0
        have f1 := blk_frozen h1 0
        have f2 := blk_frozen h2 0
        have I1 := Lib.hid h1
        have I2 := Lib.hid h2
        have I3 := Lib.hid h3
        have I4 := Lib.hid h4
        have I5 := Lib.hid hB
        have I7 := Lib.hid hK
        have n12 : w.heap.size + 1 ≠ w.heap.size + 1 + 1 := by omega
        have n21 := n12.symm
        clear h1 h2 h3 h4 hB hK
        gi_wp2
        gi_region
        all_goals gi_wp2
        all_goals have q2 := (Below.heap_setCell W ⟨w.heap.size + 1, 0, none⟩ (.slice A1 os.length C1) _ n21).trans I2.out
        all_goals have q1 : (W.setCell ⟨w.heap.size + 1, 0, none⟩ (.slice A1 os.length C1)).heap[w.heap.size + 1]? = some (.cells #[.slice A1 os.length C1] 47 (0, 0)) := blk_put (cs := #[.slice A1 os.length C1]) I1.out 0 (.slice A1 os.length C1) rfl
        all_goals rw [HRS.out, HOS.out]
        all_goals refine of_end hD (by have := HZZ.out; omega) ((Below.heap_setCell _ ⟨w.heap.size + 1 + 1, 0, none⟩ _ _ n12).trans q1) (blk_put (cs := #[.slice A2 rs.length C2]) q2 0 _ rfl) (row_setBox (B := w.heap.size + 1 + 1) q2 (by decide) (row_setBox (B := w.heap.size + 1) I1.out (by decide) I3.out _) _) (row_setBox (B := w.heap.size + 1 + 1) q2 (by decide) (row_setBox (B := w.heap.size + 1) I1.out (by decide) I4.out _) _) ((I5.out.setCell (p := ⟨w.heap.size + 1, 0, none⟩) (by simp) _).setCell (p := ⟨w.heap.size + 1 + 1, 0, none⟩) (by simp; omega) _) ?_ ?_ ?_
        all_goals first | rfl | exact (Below.heap_setCell _ ⟨w.heap.size + 1 + 1, 0, none⟩ _ _ (by have := HZZ.out; simp; omega)).trans ((Below.heap_setCell _ ⟨w.heap.size + 1, 0, none⟩ _ _ (by have := HZZ.out; simp; omega)).trans I7.out)
      case stop =>
        rintro D c pre W _ _ h _
        exact h.elim
end
theorem seqK_keys (a1 a2 : Int) : seqK (keysP a1 a2 8) 8 = (List.range 8).map (fun (n : Nat) => (n, (⟨a1, a2, (n : Int)⟩ : S26))) := rfl
theorem onesP_keys (fs : List S28) (a1 a2 term known : Int) : onesP fs term known (seqK (keysP a1 a2 8) 8) = ((List.range 8).filter (fun (n : Nat) => lookL fs ⟨a1, a2, (n : Int)⟩ term known == 1)).map (fun (n : Nat) => (n : Int)) := by
  rw [seqK_keys]
  unfold onesP
  rw [List.filter_map, List.map_map]
  rfl
theorem reads_keys (a1 a2 term : Int) : (seqK (keysP a1 a2 8) 8).map (fun x => readL x.2 term) = (keysL a1 a2).map (fun q => readL q term) := by
  rw [seqK_keys]
  unfold keysL
  rw [List.map_map, List.map_map]
  rfl
def petitions_of_int.f (l0_0 : List (S121)) (l0_1 : List (S126)) (l0_2 : List (S131)) (l0_3 : List (S28)) (a1 : Int) (a2 : Int) (a3 : Int) (a4 : Int) : Option (List Int × (List (S70))) := some (((List.range 8).filter (fun (n : Nat) => lookL l0_3 ⟨a1, a2, (n : Int)⟩ a3 a4 == 1)).map (fun (n : Nat) => (n : Int)), (keysL a1 a2).map (fun q => readL q a3))
theorem petitions_of_int.calls (A0_0 : Option Addr) (c0_0 : Nat) (l0_0 : List (S121)) (A0_1 : Option Addr) (c0_1 : Nat) (l0_1 : List (S126)) (A0_2 : Option Addr) (c0_2 : Nat) (l0_2 : List (S131)) (A0_3 : Option Addr) (c0_3 : Nat) (l0_3 : List (S28)) (a1 : Int) (a2 : Int) (a3 : Int) (a4 : Int) (r1 : List Int) (r2 : List (S70)) (w : World) (hr0_0 : Kd.C k121 w A0_0 l0_0.length l0_0) (hc0_0 : l0_0.length ≤ c0_0) (hr0_1 : Kd.C k126 w A0_1 l0_1.length l0_1) (hc0_1 : l0_1.length ≤ c0_1) (hr0_2 : Kd.C k131 w A0_2 l0_2.length l0_2) (hc0_2 : l0_2.length ≤ c0_2) (hr0_3 : Kd.C k28 w A0_3 l0_3.length l0_3) (hc0_3 : l0_3.length ≤ c0_3) (h : petitions_of_int.f l0_0 l0_1 l0_2 l0_3 a1 a2 a3 a4 = some (r1, r2)) :
    Calls Try.prog 31 #[.agg #[.slice A0_0 l0_0.length c0_0, .slice A0_1 l0_1.length c0_1, .slice A0_2 l0_2.length c0_2, .slice A0_3 l0_3.length c0_3], .int .i64 a1, .int .i64 a2, .int .i64 a3, .int .i64 a4] w fun e w' => ∃ v0_ v1_ : Value, e = .returned (.tuple #[v0_, v1_]) ∧ Kd.R (Kd.int .i64) 3 w' w.heap.size (fun _ => True) v0_ r1 ∧ Kd.R k70 70 w' w.heap.size (fun _ => True) v1_ r2 ∧ Below w.heap.size w w' := by
  have h2 := Option.some.inj h
  simp only [Prod.mk.injEq] at h2
  obtain ⟨rfl, rfl⟩ := h2
  rw [← onesP_keys, ← reads_keys]
  exact callsIn_wide.1 (ofint_in (.slice A0_0 l0_0.length c0_0) (.slice A0_1 l0_1.length c0_1) (.slice A0_2 l0_2.length c0_2) A0_3 c0_3 l0_3 a1 a2 a3 a4 w hr0_3 hc0_3)
/-! ### petitions_of_int: function 31 -/
--import Derived.Test.YtbnaecdeocbkpaaOf
/- The walk lies in the text Of:
def petitions_of_int.f
theorem petitions_of_int.calls
-/
/-! ### petitions_Held: function 17 -/
def petitions_Held.f (l0_0 : List (S121)) (l0_1 : List (S126)) (l0_2 : List (S131)) (l0_3 : List (S28)) (a1 : Int) (a2 : Int) (a3 : Int) : Option (List Int × (List (S70))) := (petitions_of_int.f l0_0 l0_1 l0_2 l0_3 6 a1 a2 a3).bind fun bt133 => (some (bt133.1, bt133.2))
set_option maxHeartbeats 8000000 in
set_option maxRecDepth 100000 in
theorem petitions_Held.calls (A0_0 : Option Addr) (c0_0 : Nat) (l0_0 : List (S121)) (A0_1 : Option Addr) (c0_1 : Nat) (l0_1 : List (S126)) (A0_2 : Option Addr) (c0_2 : Nat) (l0_2 : List (S131)) (A0_3 : Option Addr) (c0_3 : Nat) (l0_3 : List (S28)) (a1 : Int) (a2 : Int) (a3 : Int) (r1 : List Int) (r2 : List (S70)) (w : World) (hr0_0 : Kd.C k121 w A0_0 l0_0.length l0_0) (hc0_0 : l0_0.length ≤ c0_0) (hr0_1 : Kd.C k126 w A0_1 l0_1.length l0_1) (hc0_1 : l0_1.length ≤ c0_1) (hr0_2 : Kd.C k131 w A0_2 l0_2.length l0_2) (hc0_2 : l0_2.length ≤ c0_2) (hr0_3 : Kd.C k28 w A0_3 l0_3.length l0_3) (hc0_3 : l0_3.length ≤ c0_3) (h : petitions_Held.f l0_0 l0_1 l0_2 l0_3 a1 a2 a3 = some (r1, r2)) :
    Calls Try.prog 17 #[.agg #[.slice A0_0 l0_0.length c0_0, .slice A0_1 l0_1.length c0_1, .slice A0_2 l0_2.length c0_2, .slice A0_3 l0_3.length c0_3], .int .i64 a1, .int .i64 a2, .int .i64 a3] w fun e w' => ∃ v0_ v1_ : Value, e = .returned (.tuple #[v0_, v1_]) ∧ Kd.R (Kd.int .i64) 3 w' w.heap.size (fun _ => True) v0_ r1 ∧ Kd.R k70 70 w' w.heap.size (fun _ => True) v1_ r2 ∧ Below w.heap.size w w' := by
 have hu41 := Try.underlying41; have HR0_0 := Aside0.mk hr0_0; have HC0_0 := Aside0.mk hc0_0; clear hr0_0 hc0_0; have HR0_1 := Aside0.mk hr0_1; have HC0_1 := Aside0.mk hc0_1; clear hr0_1 hc0_1; have HR0_2 := Aside0.mk hr0_2; have HC0_2 := Aside0.mk hc0_2; clear hr0_2 hc0_2; have HR0_3 := Aside0.mk hr0_3; have HC0_3 := Aside0.mk hc0_3; clear hr0_3 hc0_3; have HB := Aside0.mk (Below.refl w.heap.size w); have H : ((petitions_of_int.f l0_0 l0_1 l0_2 l0_3 6 a1 a2 a3).bind fun bt133 => (some (bt133.1, bt133.2))) = some (r1, r2) := h; clear h; replace H := Option.bind_eq_some_iff.mp H; obtain ⟨⟨t133, t136⟩, A50, H⟩ := H; replace H : (some (t133, t136)) = some (r1, r2) := H; have A5 := Aside0.mk A50; clear A50; simp only [Option.some.injEq, Prod.mk.injEq] at H; obtain ⟨rfl, rfl⟩ := H; go_enter Try.func17, Try.ntmps17; go_wp2_with (first | ((with_reducible refine gate_dst (N := 4) rfl ?_); refine box_event ?hg (N := 4) ?hd (cs := #[.slice A0_0 l0_0.length c0_0, .slice A0_1 l0_1.length c0_1, .slice A0_2 l0_2.length c0_2, .slice A0_3 l0_3.length c0_3]) (t := 41) ?hr ?_; (case hd => rfl); (case hg => rfl); (case hr => first | (go_simp; done) | (go_simp; rfl)); intro gb132 hg w6 hbox hb; have n0_ := Aside0.mk (below_step (by repeat (first | (with_reducible first | exact HB.out | apply below_alloc | apply pw_below_drewN | apply below_drew1) | exact HB.out)) hb); have n1_ := Aside0.mk (hbox); have n2_ := Aside0.mk ((by rw [hg]; exact (below_size (by repeat (first | (with_reducible first | exact HB.out | apply below_alloc | apply pw_below_drewN | apply below_drew1) | exact HB.out))) : w.heap.size ≤ gb132)); have n3_ := Aside0.mk ((by rw [hg]; exact (below_size (by repeat (first | (with_reducible first | exact HB.out | apply below_alloc | apply pw_below_drewN | apply below_drew1) | exact HB.out))) : w.heap.size ≤ gb132)); clear HB; have HB := n0_; have BK132 := n1_; have GW132 := n2_; have GE132 := n3_; clear n0_ n1_ n2_ n3_; clear hb hbox hg; have hcz7_0 : w6.cell? ⟨gb132, 0, none⟩ = some (.slice A0_0 l0_0.length c0_0) := (blk_cell BK132.out 0).trans rfl; have hcz7_1 : w6.cell? ⟨gb132, 1, none⟩ = some (.slice A0_1 l0_1.length c0_1) := (blk_cell BK132.out 1).trans rfl; have hcz7_2 : w6.cell? ⟨gb132, 2, none⟩ = some (.slice A0_2 l0_2.length c0_2) := (blk_cell BK132.out 2).trans rfl; have hcz7_3 : w6.cell? ⟨gb132, 3, none⟩ = some (.slice A0_3 l0_3.length c0_3) := (blk_cell BK132.out 3).trans rfl; have hfz7_0 := blk_frozen BK132.out 0; have hfz7_1 := blk_frozen BK132.out 1; have hfz7_2 := blk_frozen BK132.out 2; have hfz7_3 := blk_frozen BK132.out 3) | ((with_reducible refine gate_callee (f := 31) rfl ?_); refine goesL_ (some 14) rfl rfl Try.func31 (by kernel_rfl) rfl #[.agg #[.slice A0_0 l0_0.length c0_0, .slice A0_1 l0_1.length c0_1, .slice A0_2 l0_2.length c0_2, .slice A0_3 l0_3.length c0_3], .int .i64 6, .int .i64 a1, .int .i64 a2, .int .i64 a3] rfl (by (try simp only [List.map_toArray, List.map_cons, List.map_nil]); first | done | rfl | (simp only [List.length_drop, List.length_take]; rfl)) ?_; (with_reducible refine (petitions_of_int.calls _ _ l0_0 _ _ l0_1 _ _ l0_2 _ _ l0_3 6 a1 a2 a3 t133 t136 _ ?side1 ?side2 ?side3 ?side4 ?side5 ?side6 ?side7 ?side8 A5.out).mono ?_); (case side1 => repeat (first | exact (Kd.C_below HR0_0.out HB.out) | (with_reducible refine Kd.C_alloc ?_ _) | (with_reducible refine Kd.C_drewN ?_ _) | (with_reducible refine Kd.C_drew ?_))); (case side2 => exact HC0_0.out); (case side3 => repeat (first | exact (Kd.C_below HR0_1.out HB.out) | (with_reducible refine Kd.C_alloc ?_ _) | (with_reducible refine Kd.C_drewN ?_ _) | (with_reducible refine Kd.C_drew ?_))); (case side4 => exact HC0_1.out); (case side5 => repeat (first | exact (Kd.C_below HR0_2.out HB.out) | (with_reducible refine Kd.C_alloc ?_ _) | (with_reducible refine Kd.C_drewN ?_ _) | (with_reducible refine Kd.C_drew ?_))); (case side6 => exact HC0_2.out); (case side7 => repeat (first | exact (Kd.C_below HR0_3.out HB.out) | (with_reducible refine Kd.C_alloc ?_ _) | (with_reducible refine Kd.C_drewN ?_ _) | (with_reducible refine Kd.C_drew ?_))); (case side8 => exact HC0_3.out); rintro e w8 ⟨v134, v137, rfl, ho0, ho1, hb⟩; refine ⟨_, rfl, ?_⟩; have n0_ := Aside0.mk (Kd.R_lower ho0 (below_size (by repeat (first | (with_reducible first | exact HB.out | apply below_alloc | apply pw_below_drewN | apply below_drew1 | refine below_set ?_ GE132.out) | exact HB.out)))); have n1_ := Aside0.mk (Kd.R_lower ho1 (below_size (by repeat (first | (with_reducible first | exact HB.out | apply below_alloc | apply pw_below_drewN | apply below_drew1 | refine below_set ?_ GE132.out) | exact HB.out)))); have n2_ := Aside0.mk (blk_below (g := gb132) (o := .cells #[.slice A0_0 l0_0.length c0_0, .slice A0_1 l0_1.length c0_1, .slice A0_2 l0_2.length c0_2, .slice A0_3 l0_3.length c0_3] 41 (0, 0)) (by (with_reducible repeat (first | refine blk_drewN ?_ _ | refine blk_drew ?_ | refine blk_alloc ?_ _)); exact BK132.out) hb); have n3_ := Aside0.mk (below_step (by repeat (first | (with_reducible first | exact HB.out | apply below_alloc | apply pw_below_drewN | apply below_drew1 | refine below_set ?_ GE132.out) | exact HB.out)) hb); clear BK132; clear HB; have HO135 := n0_; have HO138 := n1_; have BK132 := n2_; have HB := n3_; clear n0_ n1_ n2_ n3_; (try clear hb); (try clear hb2); (try clear hk); (try clear hi); (try clear ho0); (try clear ho1)))
 go_ret2
 exact ⟨_, _, by first | rfl | (simp [errW_none, errW_some] <;> rfl) | (simp [*, errW_none, errW_some] <;> rfl), by (with_reducible repeat (first | apply Kd.R_alloc | apply Kd.R_drewN | apply Kd.R_drew)); exact HO135.out, by (with_reducible repeat (first | apply Kd.R_alloc | apply Kd.R_drewN | apply Kd.R_drew)); exact HO138.out, by repeat (first | (with_reducible first | exact HB.out | apply below_alloc | apply pw_below_drewN | apply below_drew1 | refine below_set ?_ GE132.out) | exact HB.out)⟩
/-! ### petitions_Groups: function 19 -/
def petitions_Groups.f (l0_0 : List (S121)) (l0_1 : List (S126)) (l0_2 : List (S131)) (l0_3 : List (S28)) (a1 : Int) (a2 : Int) (a3 : Int) : Option (List Int × (List (S70))) := (petitions_of_int.f l0_0 l0_1 l0_2 l0_3 11 a1 a2 a3).bind fun bt140 => (some (bt140.1, bt140.2))
set_option maxHeartbeats 8000000 in
set_option maxRecDepth 100000 in
theorem petitions_Groups.calls (A0_0 : Option Addr) (c0_0 : Nat) (l0_0 : List (S121)) (A0_1 : Option Addr) (c0_1 : Nat) (l0_1 : List (S126)) (A0_2 : Option Addr) (c0_2 : Nat) (l0_2 : List (S131)) (A0_3 : Option Addr) (c0_3 : Nat) (l0_3 : List (S28)) (a1 : Int) (a2 : Int) (a3 : Int) (r1 : List Int) (r2 : List (S70)) (w : World) (hr0_0 : Kd.C k121 w A0_0 l0_0.length l0_0) (hc0_0 : l0_0.length ≤ c0_0) (hr0_1 : Kd.C k126 w A0_1 l0_1.length l0_1) (hc0_1 : l0_1.length ≤ c0_1) (hr0_2 : Kd.C k131 w A0_2 l0_2.length l0_2) (hc0_2 : l0_2.length ≤ c0_2) (hr0_3 : Kd.C k28 w A0_3 l0_3.length l0_3) (hc0_3 : l0_3.length ≤ c0_3) (h : petitions_Groups.f l0_0 l0_1 l0_2 l0_3 a1 a2 a3 = some (r1, r2)) :
    Calls Try.prog 19 #[.agg #[.slice A0_0 l0_0.length c0_0, .slice A0_1 l0_1.length c0_1, .slice A0_2 l0_2.length c0_2, .slice A0_3 l0_3.length c0_3], .int .i64 a1, .int .i64 a2, .int .i64 a3] w fun e w' => ∃ v0_ v1_ : Value, e = .returned (.tuple #[v0_, v1_]) ∧ Kd.R (Kd.int .i64) 3 w' w.heap.size (fun _ => True) v0_ r1 ∧ Kd.R k70 70 w' w.heap.size (fun _ => True) v1_ r2 ∧ Below w.heap.size w w' := by
 have hu41 := Try.underlying41; have HR0_0 := Aside0.mk hr0_0; have HC0_0 := Aside0.mk hc0_0; clear hr0_0 hc0_0; have HR0_1 := Aside0.mk hr0_1; have HC0_1 := Aside0.mk hc0_1; clear hr0_1 hc0_1; have HR0_2 := Aside0.mk hr0_2; have HC0_2 := Aside0.mk hc0_2; clear hr0_2 hc0_2; have HR0_3 := Aside0.mk hr0_3; have HC0_3 := Aside0.mk hc0_3; clear hr0_3 hc0_3; have HB := Aside0.mk (Below.refl w.heap.size w); have H : ((petitions_of_int.f l0_0 l0_1 l0_2 l0_3 11 a1 a2 a3).bind fun bt140 => (some (bt140.1, bt140.2))) = some (r1, r2) := h; clear h; replace H := Option.bind_eq_some_iff.mp H; obtain ⟨⟨t140, t143⟩, A50, H⟩ := H; replace H : (some (t140, t143)) = some (r1, r2) := H; have A5 := Aside0.mk A50; clear A50; simp only [Option.some.injEq, Prod.mk.injEq] at H; obtain ⟨rfl, rfl⟩ := H; go_enter Try.func19, Try.ntmps19; go_wp2_with (first | ((with_reducible refine gate_dst (N := 4) rfl ?_); refine box_event ?hg (N := 4) ?hd (cs := #[.slice A0_0 l0_0.length c0_0, .slice A0_1 l0_1.length c0_1, .slice A0_2 l0_2.length c0_2, .slice A0_3 l0_3.length c0_3]) (t := 41) ?hr ?_; (case hd => rfl); (case hg => rfl); (case hr => first | (go_simp; done) | (go_simp; rfl)); intro gb139 hg w6 hbox hb; have n0_ := Aside0.mk (below_step (by repeat (first | (with_reducible first | exact HB.out | apply below_alloc | apply pw_below_drewN | apply below_drew1) | exact HB.out)) hb); have n1_ := Aside0.mk (hbox); have n2_ := Aside0.mk ((by rw [hg]; exact (below_size (by repeat (first | (with_reducible first | exact HB.out | apply below_alloc | apply pw_below_drewN | apply below_drew1) | exact HB.out))) : w.heap.size ≤ gb139)); have n3_ := Aside0.mk ((by rw [hg]; exact (below_size (by repeat (first | (with_reducible first | exact HB.out | apply below_alloc | apply pw_below_drewN | apply below_drew1) | exact HB.out))) : w.heap.size ≤ gb139)); clear HB; have HB := n0_; have BK139 := n1_; have GW139 := n2_; have GE139 := n3_; clear n0_ n1_ n2_ n3_; clear hb hbox hg; have hcz7_0 : w6.cell? ⟨gb139, 0, none⟩ = some (.slice A0_0 l0_0.length c0_0) := (blk_cell BK139.out 0).trans rfl; have hcz7_1 : w6.cell? ⟨gb139, 1, none⟩ = some (.slice A0_1 l0_1.length c0_1) := (blk_cell BK139.out 1).trans rfl; have hcz7_2 : w6.cell? ⟨gb139, 2, none⟩ = some (.slice A0_2 l0_2.length c0_2) := (blk_cell BK139.out 2).trans rfl; have hcz7_3 : w6.cell? ⟨gb139, 3, none⟩ = some (.slice A0_3 l0_3.length c0_3) := (blk_cell BK139.out 3).trans rfl; have hfz7_0 := blk_frozen BK139.out 0; have hfz7_1 := blk_frozen BK139.out 1; have hfz7_2 := blk_frozen BK139.out 2; have hfz7_3 := blk_frozen BK139.out 3) | ((with_reducible refine gate_callee (f := 31) rfl ?_); refine goesL_ (some 14) rfl rfl Try.func31 (by kernel_rfl) rfl #[.agg #[.slice A0_0 l0_0.length c0_0, .slice A0_1 l0_1.length c0_1, .slice A0_2 l0_2.length c0_2, .slice A0_3 l0_3.length c0_3], .int .i64 11, .int .i64 a1, .int .i64 a2, .int .i64 a3] rfl (by (try simp only [List.map_toArray, List.map_cons, List.map_nil]); first | done | rfl | (simp only [List.length_drop, List.length_take]; rfl)) ?_; (with_reducible refine (petitions_of_int.calls _ _ l0_0 _ _ l0_1 _ _ l0_2 _ _ l0_3 11 a1 a2 a3 t140 t143 _ ?side1 ?side2 ?side3 ?side4 ?side5 ?side6 ?side7 ?side8 A5.out).mono ?_); (case side1 => repeat (first | exact (Kd.C_below HR0_0.out HB.out) | (with_reducible refine Kd.C_alloc ?_ _) | (with_reducible refine Kd.C_drewN ?_ _) | (with_reducible refine Kd.C_drew ?_))); (case side2 => exact HC0_0.out); (case side3 => repeat (first | exact (Kd.C_below HR0_1.out HB.out) | (with_reducible refine Kd.C_alloc ?_ _) | (with_reducible refine Kd.C_drewN ?_ _) | (with_reducible refine Kd.C_drew ?_))); (case side4 => exact HC0_1.out); (case side5 => repeat (first | exact (Kd.C_below HR0_2.out HB.out) | (with_reducible refine Kd.C_alloc ?_ _) | (with_reducible refine Kd.C_drewN ?_ _) | (with_reducible refine Kd.C_drew ?_))); (case side6 => exact HC0_2.out); (case side7 => repeat (first | exact (Kd.C_below HR0_3.out HB.out) | (with_reducible refine Kd.C_alloc ?_ _) | (with_reducible refine Kd.C_drewN ?_ _) | (with_reducible refine Kd.C_drew ?_))); (case side8 => exact HC0_3.out); rintro e w8 ⟨v141, v144, rfl, ho0, ho1, hb⟩; refine ⟨_, rfl, ?_⟩; have n0_ := Aside0.mk (Kd.R_lower ho0 (below_size (by repeat (first | (with_reducible first | exact HB.out | apply below_alloc | apply pw_below_drewN | apply below_drew1 | refine below_set ?_ GE139.out) | exact HB.out)))); have n1_ := Aside0.mk (Kd.R_lower ho1 (below_size (by repeat (first | (with_reducible first | exact HB.out | apply below_alloc | apply pw_below_drewN | apply below_drew1 | refine below_set ?_ GE139.out) | exact HB.out)))); have n2_ := Aside0.mk (blk_below (g := gb139) (o := .cells #[.slice A0_0 l0_0.length c0_0, .slice A0_1 l0_1.length c0_1, .slice A0_2 l0_2.length c0_2, .slice A0_3 l0_3.length c0_3] 41 (0, 0)) (by (with_reducible repeat (first | refine blk_drewN ?_ _ | refine blk_drew ?_ | refine blk_alloc ?_ _)); exact BK139.out) hb); have n3_ := Aside0.mk (below_step (by repeat (first | (with_reducible first | exact HB.out | apply below_alloc | apply pw_below_drewN | apply below_drew1 | refine below_set ?_ GE139.out) | exact HB.out)) hb); clear BK139; clear HB; have HO142 := n0_; have HO145 := n1_; have BK139 := n2_; have HB := n3_; clear n0_ n1_ n2_ n3_; (try clear hb); (try clear hb2); (try clear hk); (try clear hi); (try clear ho0); (try clear ho1)))
 go_ret2
 exact ⟨_, _, by first | rfl | (simp [errW_none, errW_some] <;> rfl) | (simp [*, errW_none, errW_some] <;> rfl), by (with_reducible repeat (first | apply Kd.R_alloc | apply Kd.R_drewN | apply Kd.R_drew)); exact HO142.out, by (with_reducible repeat (first | apply Kd.R_alloc | apply Kd.R_drewN | apply Kd.R_drew)); exact HO145.out, by repeat (first | (with_reducible first | exact HB.out | apply below_alloc | apply pw_below_drewN | apply below_drew1 | refine below_set ?_ GE139.out) | exact HB.out)⟩
/-! ### sizarref27_SameInts: function 21 -/
def sizarref27_SameInts.l0 : Nat → List Int → List Int → Int → Option (Bool)
  | 0, _, _, _ => none
  | k + 1, x0, x1, x5 => if x5 < (x0.length : Int) then (if 0 ≤ x5 then (if x5 < (x1.length : Int) then (if (rd x0 x5) = (rd x1 x5) then (sizarref27_SameInts.l0 k x0 x1 (wrap64 (x5 + 1))) else (some false)) else (none)) else (none)) else (some true)
def sizarref27_SameInts.f (k : Nat) (l0 : List Int) (l1 : List Int) : Option (Bool) := if (l0.length : Int) = (l1.length : Int) then (sizarref27_SameInts.l0 k l0 l1 0) else (some false)
set_option maxHeartbeats 8000000 in
set_option maxRecDepth 100000 in
theorem sizarref27_SameInts.calls (k : Nat) (A0 : Option Addr) (c0 : Nat) (l0 : List Int) (A1 : Option Addr) (c1 : Nat) (l1 : List Int) (r : Bool) (w : World) (hr0 : Kd.C (Kd.int .i64) w A0 l0.length l0) (hc0 : l0.length ≤ c0) (hr1 : Kd.C (Kd.int .i64) w A1 l1.length l1) (hc1 : l1.length ≤ c1) (h : sizarref27_SameInts.f k l0 l1 = some r) :
    Calls Try.prog 21 #[.slice A0 l0.length c0, .slice A1 l1.length c1] w fun e w' => e = .returned (.bool r) ∧ Drawn0 w w' := by
 have HR0 := Aside0.mk hr0; have HC0 := Aside0.mk hc0; clear hr0 hc0; have HR1 := Aside0.mk hr1; have HC1 := Aside0.mk hc1; clear hr1 hc1; have H : (if (l0.length : Int) = (l1.length : Int) then (sizarref27_SameInts.l0 k l0 l1 0) else (some false)) = some r := h; clear h; by_cases c3 : (l0.length : Int) = (l1.length : Int)
 ·rw [if_pos c3] at H; have c3b0 : ((l0.length : Int) == (l1.length : Int)) = true := beq_iff_eq.mpr c3; have c3b1 : ((l0.length : Int) != (l1.length : Int)) = false := bne_eq_false_iff_eq.mpr c3; have c3b2 : (l0.length == l1.length) = true := by first | simpa using c3 | (simp at c3 ⊢; omega)
  clear c3; have H' := Aside0.mk H; clear H; go_enter Try.func21, Try.ntmps21; go_wp2
  repeat (go_quiet (fail); try go_wp2)
  go_loopg [5] k (fun kq v5 w' => ∃ (x5_1 : Int), v5 = .int .i64 x5_1 ∧ Aside0 (sizarref27_SameInts.l0 kq l0 l1 x5_1 = some r) ∧ Aside0 (kq ≤ k) ∧ Drawn0 w w')
  case atStart => exact ⟨(0), (by first | rfl | (simp; done) | (simp [*]; done)), H', ⟨Nat.le_refl _⟩, by repeat (first | exact Drawn0.refl _ | apply Drawn0.step)⟩
  case round =>
   clear H'
   try clear c1
   try clear c2
   try clear p2
   try clear c3
   try clear c3b0
   try clear c3b1
   try clear c3b2
   obtain ⟨x5_1, rfl, HA, HK1, ⟨m1, rfl⟩⟩ := hrel; cases gk with
   | zero => exact absurd HA.out (by simp [sizarref27_SameInts.l0])
   | succ k1 =>
    have H := HA.out; clear HA; simp only [sizarref27_SameInts.l0] at H; by_cases c4 : x5_1 < (l0.length : Int)
    ·rw [if_pos c4] at H; have c4b0 : decide (x5_1 < (l0.length : Int)) = true := decide_eq_true c4; clear c4; by_cases c5 : 0 ≤ x5_1
     ·rw [if_pos c5] at H; have c5b0 : decide (0 ≤ x5_1) = true := decide_eq_true c5; clear c5; by_cases c6 : x5_1 < (l1.length : Int)
      ·rw [if_pos c6] at H; have c6b0 : decide (x5_1 < (l1.length : Int)) = true := decide_eq_true c6; clear c6; by_cases c7 : (rd l0 x5_1) = (rd l1 x5_1)
       ·rw [if_pos c7] at H; have c7b0 : ((rd l0 x5_1) == (rd l1 x5_1)) = true := beq_iff_eq.mpr c7; have c7b1 : ((rd l0 x5_1) != (rd l1 x5_1)) = false := bne_eq_false_iff_eq.mpr c7; clear c7; have H' := Aside0.mk H; clear H; have p146 : 0 ≤ (x5_1 : Int) := of_decide_eq_true (by first | (with_reducible assumption) | assumption); have q146 : x5_1 < (l0.length : Int) := of_decide_eq_true (by first | (with_reducible assumption) | assumption); obtain ⟨ad146, e146, hx146_0⟩ := Kd.at_int HR0.out x5_1 p146 q146; cases e146; replace p146 := eq_true p146; replace q146 := eq_true q146; have p147 : 0 ≤ (x5_1 : Int) := of_decide_eq_true (by first | (with_reducible assumption) | assumption); have q147 : x5_1 < (l1.length : Int) := of_decide_eq_true (by first | (with_reducible assumption) | assumption); obtain ⟨ad147, e147, hx147_0⟩ := Kd.at_int HR1.out x5_1 p147 q147; cases e147; replace p147 := eq_true p147; replace q147 := eq_true q147; go_wp2
        repeat (go_quiet (fail); try go_wp2)
        go_roundg k1
        case measure => have := HK1.out; omega
        case rel => exact ⟨(wrap64 (x5_1 + 1)), (by first | rfl | (simp; done) | (simp [*]; done)), H', ⟨by have := HK1.out; omega⟩, by repeat (first | exact Drawn0.refl _ | apply Drawn0.step)⟩
       ·rw [if_neg c7] at H; have c7b0 : ((rd l0 x5_1) == (rd l1 x5_1)) = false := beq_eq_false_iff_ne.mpr c7; have c7b1 : ((rd l0 x5_1) != (rd l1 x5_1)) = true := bne_iff_ne.mpr c7; obtain rfl := Option.some.inj H; have p146 : 0 ≤ (x5_1 : Int) := of_decide_eq_true (by first | (with_reducible assumption) | assumption); have q146 : x5_1 < (l0.length : Int) := of_decide_eq_true (by first | (with_reducible assumption) | assumption); obtain ⟨ad146, e146, hx146_0⟩ := Kd.at_int HR0.out x5_1 p146 q146; cases e146; replace p146 := eq_true p146; replace q146 := eq_true q146; have p147 : 0 ≤ (x5_1 : Int) := of_decide_eq_true (by first | (with_reducible assumption) | assumption); have q147 : x5_1 < (l1.length : Int) := of_decide_eq_true (by first | (with_reducible assumption) | assumption); obtain ⟨ad147, e147, hx147_0⟩ := Kd.at_int HR1.out x5_1 p147 q147; cases e147; replace p147 := eq_true p147; replace q147 := eq_true q147; go_wp2
        repeat (go_quiet (fail); try go_wp2)
        go_ret; exact ⟨by first | rfl | (simp; done) | (simp [*]; done), by repeat (first | exact Drawn0.refl _ | apply Drawn0.step)⟩
      (rw [if_neg c6] at H; exact absurd H (by simp))
     (rw [if_neg c5] at H; exact absurd H (by simp))
    ·rw [if_neg c4] at H; have c4b0 : decide (x5_1 < (l0.length : Int)) = false := decide_eq_false c4; clear c4; obtain rfl := Option.some.inj H; go_wp2
     repeat (go_quiet (fail); try go_wp2)
     go_ret; exact ⟨by first | rfl | (simp; done) | (simp [*]; done), by repeat (first | exact Drawn0.refl _ | apply Drawn0.step)⟩
 ·rw [if_neg c3] at H; have c3b0 : ((l0.length : Int) == (l1.length : Int)) = false := beq_eq_false_iff_ne.mpr c3; have c3b1 : ((l0.length : Int) != (l1.length : Int)) = true := bne_iff_ne.mpr c3; have c3b2 : (l0.length == l1.length) = false := by first | simpa using c3 | (simp at c3 ⊢; omega)
  obtain rfl := Option.some.inj H; go_enter Try.func21, Try.ntmps21; go_wp2
  repeat (go_quiet (fail); try go_wp2)
  go_ret; exact ⟨by first | rfl | (simp; done) | (simp [*]; done), by repeat (first | exact Drawn0.refl _ | apply Drawn0.step)⟩
end Go.Proofs.Ytbnaecdeocbkpaa.X
