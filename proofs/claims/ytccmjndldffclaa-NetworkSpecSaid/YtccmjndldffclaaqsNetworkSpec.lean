/- The law NetworkSpec is proved, whatever its input: no condition. -/
import Derived.Test.Ytccmjndldffclaaqsb6
import Derived.ChangeOld
import Derived.OpenShut
import Derived.ProofKit
import Derived.ShutString
import Derived.SizedLaws
import Derived.Test.YtccmjndldffclaaRows
-- What the functions of the package network and of its reference compute, in plain lists.
namespace Go.Proofs.Ytccmjndldffclaa.X
open Go.RowKit Go.Proofs.YtccmjndldffclaaW.PrintWords
set_option linter.unusedVariables false
set_option linter.unusedSimpArgs false
namespace Z
def pok (p : S28) : Bool := decide (0 ≤ p.f0 ∧ p.f0 < 7 ∧ 0 ≤ p.f1 ∧ p.f1 < 7 ∧ p.f0 ≠ p.f1 ∧ (p.f2.length : Int) ≤ 1048576)
def lok (x : S55) : Bool := decide (0 ≤ x.f0 ∧ x.f0 < x.f1 ∧ x.f1 < 7)
def llt (x y : S55) : Bool := decide (x.f0 < y.f0 ∨ x.f0 = y.f0 ∧ x.f1 < y.f1)
/-- The links from the place a on. -/
def lks (l : List S55) : Nat → Nat → Bool
  | 0, _ => true
  | n + 1, a => lok (rd_T55 l a) && (decide (a = 0) || llt (rd_T55 l ((a - 1 : Nat) : Int)) (rd_T55 l a)) && lks l n (a + 1)
def net (q : List S28) (l : List S55) : Bool := decide (q.length ≤ 4096) && q.all pok && lks l l.length 0
def chk (q : List S28) (l : List S55) : Int := if net q l = true then 0 else 480
theorem packet_ (a b : Int) (d : List Int) : network_packet.f a b d = some (pok ⟨a, b, d⟩) := by
  have hv : network_link_valid.f (mn a b) (mx a b) = some (decide (0 ≤ a ∧ a < 7 ∧ 0 ≤ b ∧ b < 7 ∧ a ≠ b)) := by
    unfold network_link_valid.f mn mx
    repeat' split
    all_goals (congr 1; first | (rw [decide_eq_decide]; omega) | (symm; rw [decide_eq_false_iff_not]; omega))
  unfold network_packet.f network_between.f pok
  rw [Option.bind_some, hv, Option.bind_some]
  by_cases h : 0 ≤ a ∧ a < 7 ∧ 0 ≤ b ∧ b < 7 ∧ a ≠ b
  · rw [if_pos (decide_eq_true h)]
    congr 1
    rw [decide_eq_decide]
    simp only []
    omega
  · rw [if_neg (by rw [decide_eq_false h]; decide)]
    congr 1
    symm
    rw [decide_eq_false_iff_not]
    simp only []
    omega
theorem packetR_ (a b : Int) (d : List Int) : sizarref48_Packet.f a b d = some (pok ⟨a, b, d⟩) := by
  have hc : ∀ x : Int, sizarref48_Campus.f x = some (decide (0 ≤ x ∧ x < 7)) := fun x => by
    unfold sizarref48_Campus.f
    split
    all_goals (congr 1; first | (rw [decide_eq_decide]; omega) | (symm; rw [decide_eq_false_iff_not]; omega))
  unfold sizarref48_Packet.f pok
  rw [hc, hc, Option.bind_some, Option.bind_some]
  simp only [decide_eq_true_eq]
  repeat' split
  all_goals (congr 1; first | (rw [decide_eq_decide]; omega) | (symm; rw [decide_eq_false_iff_not]; omega))
theorem w64 (i : Nat) (h : i < 1000000) : wrap64 ((i : Int) + 1) = ((i + 1 : Nat) : Int) := by unfold wrap64; omega
theorem w64' (i : Nat) (h : i < 1000000) : wrap64 (((i + 1 : Nat) : Int) - 1) = (i : Int) := by unfold wrap64; omega
theorem rd28 {l : List S28} {i : Nat} (h : i < l.length) : rd_T28 l (i : Int) = l[i] := by simp [rd_T28, List.getD_eq_getElem?_getD, List.getElem?_eq_getElem h]
theorem any_ (q : List S28) (hq : q.length ≤ 4096) : ∀ (n i k : Nat), n + i = q.length → n + 1 ≤ k → ∃ t, api_Packet_43.l0 k q (q.length : Int) (i : Int) = some t ∧ (decide (t ≥ 0) = !(q.drop i).all pok)
  | 0, i, k + 1, h, hk => by
    unfold api_Packet_43.l0
    rw [if_neg (by omega), List.drop_eq_nil_of_le (by omega)]
    exact ⟨_, rfl, by simp⟩
  | n + 1, i, k + 1, h, hk => by
    have hi : i < q.length := by omega
    obtain ⟨t, h1, h2⟩ := any_ q hq n (i + 1) k (by omega) (by omega)
    unfold api_Packet_43.l0 network_Check_1.f
    rw [if_pos (by omega), if_pos (by omega), if_pos (by omega), packet_, Option.bind_some, Option.bind_some, w64 i (by omega), h1, rd28 hi, List.drop_eq_getElem_cons hi, List.all_cons]
    cases hp : pok q[i] with
    | true => exact ⟨t, by simp [hp], by rw [h2]; simp [hp]⟩
    | false => exact ⟨i, by simp [hp], by simp [hp]⟩
theorem chkA_ (l : List S55) : ∀ (n a : Nat), chkA l n a = some (if lks l n a = true then 0 else 480)
  | 0, a => rfl
  | n + 1, a => by
    have ih := chkA_ l n (a + 1)
    unfold chkA lks network_link_valid.f
    rw [ih]
    generalize rd_T55 l a = x
    generalize rd_T55 l ((a - 1 : Nat) : Int) = p
    have hc : (0 < a ∧ 0 ≤ cmp2 p x) ↔ ¬ (a = 0 ∨ llt p x = true) := by
      unfold cmp2 llt
      rw [decide_eq_true_eq]
      repeat' split
      all_goals omega
    have hv : (if x.f0 ≥ 0 then (if x.f0 < x.f1 then some (decide (x.f1 < 7)) else some false) else some false) = some (lok x) := by
      unfold lok
      by_cases h1 : x.f0 ≥ 0 <;> by_cases h2 : x.f0 < x.f1 <;> simp [h1, h2]
    rw [hv, Option.bind_some]
    cases hx : lok x with
    | false => simp
    | true =>
      by_cases h : a = 0 ∨ llt p x = true
      · rw [if_pos rfl, if_neg (by rw [hc]; exact not_not_intro h)]
        have : (decide (a = 0) || llt p x) = true := by simpa using h
        rw [this]
        simp
      · rw [if_pos rfl, if_pos (hc.2 h)]
        have : (decide (a = 0) || llt p x) = false := by simpa using h
        rw [this]
        simp
theorem check_ (q : List S28) (l : List S55) : network_Check.f q l = some (chk q l) := by
  unfold network_Check.f chk net
  by_cases h : q.length ≤ 4096
  · rw [if_neg (by omega)]
    obtain ⟨t, h1, h2⟩ := any_ q h q.length 0 (q.length + 5) (by omega) (by omega)
    unfold api_Packet_30.f api_Packet_43.f
    rw [show ((0 : Nat) : Int) = 0 from rfl] at h1
    rw [h1, Option.bind_some, Option.bind_some, h2, List.drop_zero, chkA_]
    cases q.all pok <;> simp [h]
  · rw [if_pos (by omega)]
    simp [h]
theorem l1_ (q : List S28) (l : List S55) (hl : l.length < 1000000) : ∀ (n i k : Nat), n + i = l.length → 2 * n + 1 ≤ k → sizarref48_Check.l1 k (i : Int) q l = some (if lks l n i = true then 0 else 480)
  | 0, i, k + 1, h, hk => by
    unfold sizarref48_Check.l1
    rw [if_neg (by omega)]
    rfl
  | n + 1, i, k + 2, h, hk => by
    have hi : i < l.length := by omega
    have ih := l1_ q l hl n (i + 1) k (by omega) (by omega)
    unfold sizarref48_Check.l1
    rw [if_pos (by omega), if_pos (by omega)]
    unfold lks
    have hj : ∀ b : Bool, sizarref48_Check.j2 (k + 1) (i : Int) b q l (rd_T55 l i).f0 (rd_T55 l i).f1 = some (if (!b && (decide (i = 0) || llt (rd_T55 l ((i - 1 : Nat) : Int)) (rd_T55 l i)) && lks l n (i + 1)) = true then 0 else 480) := by
      intro b
      unfold sizarref48_Check.j2
      rw [w64 i (by omega), ih]
      generalize hx : rd_T55 l i = x
      cases b with
      | true => simp
      | false =>
        rw [if_neg (by decide)]
        cases i with
        | zero => simp
        | succ j =>
          rw [w64' j (by omega), if_pos (by omega), if_pos (by omega), if_pos (by omega), show j + 1 - 1 = j from rfl]
          generalize rd_T55 l j = p
          unfold llt
          have e0 : decide (j + 1 = 0) = false := by simp
          rw [e0]
          simp only [Bool.not_false, Bool.true_and, Bool.false_or]
          cases lks l n (j + 1 + 1) <;> simp only [Bool.and_true, Bool.and_false, decide_eq_true_eq, Bool.false_eq_true, if_false, if_true] <;> (repeat' split) <;> first | rfl | (exfalso; omega)
    rw [hj, hj]
    generalize hx : rd_T55 l i = x
    have hc : ∀ x : Int, sizarref48_Campus.f x = some (decide (0 ≤ x ∧ x < 7)) := fun x => by
      unfold sizarref48_Campus.f
      split
      all_goals (congr 1; first | (rw [decide_eq_decide]; omega) | (symm; rw [decide_eq_false_iff_not]; omega))
    rw [hc, hc, Option.bind_some, Option.bind_some]
    by_cases h : lok x = true
    · have h' := h
      simp only [lok, decide_eq_true_eq] at h'
      rw [if_pos (by simp only [decide_eq_true_eq]; omega), if_pos (by simp only [decide_eq_true_eq]; omega), h, show decide (x.f0 ≥ x.f1) = false from decide_eq_false (by omega)]
      rfl
    · have h' := h
      simp only [lok, decide_eq_true_eq] at h'
      rw [Bool.not_eq_true] at h
      rw [h]
      simp only [decide_eq_true_eq]
      repeat' split
      all_goals first | rfl | (exfalso; omega) | (rw [show decide (x.f0 ≥ x.f1) = true from decide_eq_true (by omega)]; rfl) | (simp_all; done) | (simp_all; omega)
theorem l0_ (q : List S28) (l : List S55) (hq : q.length ≤ 4096) (hl : l.length < 1000000) : ∀ (n i k : Nat), n + i = q.length → n + 1 + (2 * l.length + 1) ≤ k → sizarref48_Check.l0 k (i : Int) q l = some (if ((q.drop i).all pok && lks l l.length 0) = true then 0 else 480)
  | 0, i, k + 1, h, hk => by
    unfold sizarref48_Check.l0
    rw [if_neg (by omega), List.drop_eq_nil_of_le (by omega)]
    have := l1_ q l hl l.length 0 k (by omega) (by omega)
    rw [show ((0 : Nat) : Int) = 0 from rfl] at this
    rw [this]
    simp
  | n + 1, i, k + 1, h, hk => by
    have hi : i < q.length := by omega
    unfold sizarref48_Check.l0
    rw [if_pos (by omega), if_pos (by omega), packetR_, Option.bind_some, w64 i (by omega), l0_ q l hq hl n (i + 1) k (by omega) (by omega), rd28 hi, List.drop_eq_getElem_cons hi, List.all_cons]
    cases hp : pok q[i] <;> simp [hp]
theorem checkR_ (q : List S28) (l : List S55) (k : Nat) (hl : l.length < 1000000) (hk : q.length + 2 * l.length + 2 ≤ k) : sizarref48_Check.f k q l = some (chk q l) := by
  unfold sizarref48_Check.f chk net
  by_cases h : q.length ≤ 4096
  · rw [if_neg (by omega)]
    have := l0_ q l h hl q.length 0 k (by omega) (by omega)
    rw [show ((0 : Nat) : Int) = 0 from rfl] at this
    rw [this]
    simp [h]
  · rw [if_pos (by omega)]
    simp [h]
theorem same_packet (p : S28) : sizarref48_SamePacket.f p.f0 p.f1 p.f2 p.f0 p.f1 p.f2 = some true := by
  unfold sizarref48_SamePacket.f
  simp
theorem same1 (q : List S28) (l : List S55) (hl : l.length < 1000000) : ∀ (n i k : Nat), n + i = l.length → n + 1 ≤ k → sizarref48_Same.l1 k (i : Int) q l q l = some true
  | 0, i, k + 1, h, hk => by
    unfold sizarref48_Same.l1
    rw [if_neg (by omega)]
  | n + 1, i, k + 1, h, hk => by
    unfold sizarref48_Same.l1
    rw [if_pos (by omega), if_pos (by omega), if_pos (by omega), w64 i (by omega), same1 q l hl n (i + 1) k (by omega) (by omega)]
    simp
theorem same0 (q : List S28) (l : List S55) (hq : q.length < 1000000) (hl : l.length < 1000000) : ∀ (n i k : Nat), n + i = q.length → n + 1 + (l.length + 1) ≤ k → sizarref48_Same.l0 k (i : Int) q l q l = some true
  | 0, i, k + 1, h, hk => by
    unfold sizarref48_Same.l0
    rw [if_neg (by omega)]
    have := same1 q l hl l.length 0 k (by omega) (by omega)
    rwa [show ((0 : Nat) : Int) = 0 from rfl] at this
  | n + 1, i, k + 1, h, hk => by
    unfold sizarref48_Same.l0
    rw [if_pos (by omega), if_pos (by omega), if_pos (by omega), same_packet, Option.bind_some, w64 i (by omega), same0 q l hq hl n (i + 1) k (by omega) (by omega)]
    simp
theorem same_ (q : List S28) (l : List S55) (k : Nat) (hq : q.length < 1000000) (hl : l.length < 1000000) (hk : q.length + l.length + 3 ≤ k) : sizarref48_Same.f k q l q l = some true := by
  obtain ⟨m, rfl⟩ : ∃ m, k = m + 1 := ⟨k - 1, by omega⟩
  have := same0 q l hq hl q.length 0 m (by omega) (by omega)
  rw [show ((0 : Nat) : Int) = 0 from rfl] at this
  unfold sizarref48_Same.f
  rw [if_pos rfl]
  simp [sizarref48_Same.j0, this]
/-- What Send leaves. -/
def snd (q : List S28) (l : List S55) (p : S28) : List S28 × List S55 × Int := if net q l = true ∧ pok p = true then (if q.length = 4096 then ([], [], 2) else (q ++ [p], l, 0)) else ([], [], 480)
theorem net_len {q : List S28} {l : List S55} (h : net q l = true) : q.length ≤ 4096 := by
  simp [net] at h
  exact h.1.1
theorem send_ (q : List S28) (l : List S55) (p : S28) : network_Send.f q l p.f0 p.f1 p.f2 = some (snd q l p) := by
  unfold network_Send.f snd
  rw [check_, Option.bind_some, packet_, Option.bind_some, chk]
  cases hn : net q l with
  | false => simp
  | true =>
    have hl := net_len hn
    cases hp : pok p with
    | false => simp [hp]
    | true =>
      by_cases h : q.length = 4096
      · simp [h, hp]
      · rw [if_pos rfl, if_pos rfl, if_pos rfl, if_neg (by omega), if_pos (by omega), if_pos ⟨rfl, rfl⟩, if_neg h]
theorem sendR_ (q : List S28) (l : List S55) (p : S28) (k : Nat) (hl : l.length < 1000000) (hk : q.length + 2 * l.length + 2 ≤ k) : sizarref48_Send.f k q l p.f0 p.f1 p.f2 = some (snd q l p) := by
  unfold sizarref48_Send.f snd
  rw [checkR_ q l k hl hk, Option.bind_some, packetR_, Option.bind_some, chk]
  obtain ⟨m, rfl⟩ : ∃ m, k = m + 1 := ⟨k - 1, by omega⟩
  unfold sizarref48_Send.j0
  cases hn : net q l with
  | false => simp
  | true =>
    have hl := net_len hn
    cases hp : pok p with
    | false => simp [hp]
    | true =>
      by_cases h : q.length = 4096
      · simp [h, hp]
      · have h1 : q.length < 3518437208883 := by omega
        have h2 : q.length + 1 < 3518437208883 := by omega
        have h3 : ¬ (q.length : Int) = 4096 := by omega
        simp [h, h1, h2, h3, hp]
end Z
end Go.Proofs.Ytccmjndldffclaa.X
-- The laws of the package network: what the program's functions compute answers as the statements say.
namespace Go.Proofs.Ytccmjndldffclaa.X
open Go.RowKit Go.Proofs.YtccmjndldffclaaW.PrintWords
set_option linter.unusedVariables false
set_option linter.unusedSimpArgs false
open Z
theorem Z.sane : sizarlaw48_sane.f 300 = some true := by decide +kernel
theorem Z.few (q : List S28) (l : List S55) : sizarref48_Few.f q l = some (decide (q.length ≤ 40 ∧ l.length ≤ 40)) := by
  unfold sizarref48_Few.f
  split
  all_goals (congr 1; first | (rw [decide_eq_decide]; omega) | (symm; rw [decide_eq_false_iff_not]; omega))
theorem Z.snd_len {q : List S28} {l : List S55} (p : S28) (hq : q.length ≤ 40) (hl : l.length ≤ 40) : (snd q l p).1.length ≤ 41 ∧ (snd q l p).2.1.length ≤ 40 := by
  unfold snd
  repeat' split
  all_goals simp <;> omega
theorem Pu.NetworkSpec (y : SN) (p : S28) : ∃ k, sizarlaw48_NetworkSpec.f k y.q y.l p.f0 p.f1 p.f2 = some true := by
  obtain ⟨q, l⟩ := y
  refine ⟨300, ?_⟩
  unfold sizarlaw48_NetworkSpec.f
  simp only []
  rw [sane, Option.bind_some, if_pos rfl, few, Option.bind_some]
  by_cases h : q.length ≤ 40 ∧ l.length ≤ 40
  · obtain ⟨h1, h2⟩ := snd_len p h.1 h.2
    rw [if_pos (decide_eq_true h), send_, Option.bind_some, sendR_ q l p 300 (by omega) (by omega), Option.bind_some, check_, Option.bind_some, checkR_ q l 300 (by omega) (by omega), Option.bind_some, if_pos rfl,
      same_ _ _ 300 (by omega) (by omega) (by omega), Option.bind_some, if_pos rfl, if_pos rfl]
    unfold network_New.f sizarref48_New.f
    rw [Option.bind_some, Option.bind_some, same_ _ _ 300 (by simp) (by simp) (by simp)]
    rfl
  · rw [if_neg (by rw [decide_eq_false h]; decide)]
end Go.Proofs.Ytccmjndldffclaa.X
-- The row of the law NetworkSpec, out of its pure proof and its walk (written by wip/mkrow.py).
namespace Go.Proofs.Ytccmjndldffclaa.networkSpec
open Go.ChangeShapes Go.WideShapes Go.ChangeAt Go.RowKit Go.Proofs.YtccmjndldffclaaW.PrintWords Go.Proofs.YtccmjndldffclaaW.Opn Go.Proofs.Ytccmjndldffclaa.X
open Go.ChangeMaps (open_string shut_string)
set_option linter.unusedVariables false
theorem own : ownKnob Try.prog.godebug = none := by kernel_rfl
theorem laidOut : laidOutB Try.prog = true := by kernel_rfl
set_option maxRecDepth 100000 in
theorem lifted (os : Os) (started : os.Started) (H : Type) (enc : TypeId × Value → H) :
    ReturnsInHanded {} Try.checked os 3 .any (Rows.networkSpecSpec.pre6 enc Try.prog Try.f3 Rows.networkSpecRow.domain false) (Rows.networkSpecSpec.post enc Try.prog Try.f3 false true false false) := by
  refine returnsInHanded_of_change_sized (C := Try.checked) own started (by kernel_rfl) Try.func3
    (ChangeSpec.witness6 (enc := enc) (C := Try.checked) false ⟨#[], #[.agg #[.slice none 0 0,.slice none 0 0], .agg #[.int .i64 0,.int .i64 0,.slice none 0 0]], []⟩ 8 (by kernel_rfl) (by kernel_rfl) (by kernel_rfl) (by kernel_rfl)) ?_
  intro W base args ds gs before hval0 hW hcnd hsz0 _
  have hval : ∀ (j : Nat) t v, Try.f3.params[j]? = some t → args[j]? = some v → Value.okWide Try.prog W .any base t v := hval0
  have hW' := hW
  obtain ⟨p, q, hA0, hV, rfl, hfz, hnd⟩ := hW
  have hA : DataW.TrodAll enc Try.prog W 0 (fun _ => true) true Try.f3.params.toList args.toList ds p := hA0
  rw [Try.params3] at hA hval
  obtain ⟨v0, vs0, d0, ds0, p0, q0, hargs, rfl, rfl, h0, r0⟩ := trodAll_cons hA
  obtain ⟨v1, vs1, d1, ds1, p1, q1, rfl, rfl, rfl, h1, r1⟩ := trodAll_cons r0
  obtain ⟨rfl, rfl, rfl⟩ := trodAll_nil r1
  obtain rfl : args = #[v0, v1] := by cases args; simp_all
  obtain ⟨rfl, rfl⟩ := trodVars_none hV
  have k0 := h0
  have lt0 : ∀ x ∈ p0, x.block < W.heap.size := by obtain ⟨m, hm⟩ := k0; exact DataW.trod_lt m _ _ _ hm
  obtain ⟨y0, cs0, rfl, hk0, ho0⟩ := Opens.arg_struct op25 Try.underlying25 (hval 0 25 v0 rfl rfl) h0
  obtain ⟨An0, cn0, Am0, cm0, rfl, lq0, gq0, ll0, gl0⟩ := kN_open hk0
  have k1 := h1
  have lt1 : ∀ x ∈ p1, x.block < W.heap.size := by obtain ⟨m, hm⟩ := k1; exact DataW.trod_lt m _ _ _ hm
  obtain ⟨y1, cs1, rfl, hk1, ho1⟩ := Opens.arg_struct op28 Try.underlying28 (hval 1 28 v1 rfl rfl) h1
  obtain ⟨Ap1, cp1, rfl, lp1, gp1⟩ := k28_open hk1
  clear hA0 hval0 hsz0
  obtain ⟨k, hk_⟩ := Pu.NetworkSpec y0 y1
  refine (sizarlaw48_NetworkSpec.calls k An0 cn0 y0.q Am0 cm0 y0.l y1.f0 y1.f1 Ap1 cp1 y1.f2 true W gq0 lq0 gl0 ll0 gp1 lp1 hk_).mono fun e W' ⟨he, bel0⟩ => ?_
  have bel : Below W.heap.size W W' := bel0
  subst he
  exact ⟨_, rfl, _, _, _, [], _, [], hW', trodAll_mk1 (shut_bool Try.underlying4 _), (trodAll_cons_mk (Below.trod laidOut (by kernel_rfl) (of_decide_eq_true (by kernel_rfl)) k0 bel lt0) (trodAll_cons_mk (Below.trod laidOut (by kernel_rfl) (of_decide_eq_true (by kernel_rfl)) k1 bel lt1) trodAll_mk0)), rfl, bel.frame _, fun h => by cases h⟩
theorem over : Rows.networkSpecRow.holds Try.pinned (OpenSpec.ofChange Rows.networkSpecSpec) :=
  OpenClaim.holds_of_wide 3 Try.f3 rfl rfl rfl rfl rfl rfl rfl ⟨rfl, rfl, rfl, rfl, rfl⟩ rfl rfl rfl rfl rfl (by kernel_rfl) Try.func3 (by kernel_rfl)
    (of_decide_eq_true (by kernel_rfl)) (by unfold Func.isWrapper; first | (rw [if_pos (by decide +kernel)]; kernel_rfl) | (rw [if_neg (by decide +kernel)]; exact ⟨rfl, rfl⟩))
    (fun os started H enc _ => lifted os started H enc)
end Go.Proofs.Ytccmjndldffclaa.networkSpec
namespace Go.Proofs.Ytccmjndldffclaa
/-- The row, under a short name, for the claim. -/
theorem networkSpec_holds : Rows.NetworkSpecSaid := networkSpec.over
#print axioms networkSpec_holds
end Go.Proofs.Ytccmjndldffclaa
