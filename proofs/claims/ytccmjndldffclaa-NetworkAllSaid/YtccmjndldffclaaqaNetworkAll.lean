/- The law NetworkAll is proved, whatever its input: no condition. -/
import Derived.Test.Ytccmjndldffclaaqab5
import Derived.ChangeOld
import Derived.OpenShut
import Derived.ProofKit
import Derived.ShutString
import Derived.SizedLaws
import Derived.Test.YtccmjndldffclaaRows
-- What the functions of the package network and of its reference compute, in plain lists.
namespace Go.Proofs.Ytccmjndldffclaa.X
open Go.RowKit Go.Proofs.YtccmjndldffclaaW.PrintWords
set_option linter.unusedVariables false
set_option linter.unusedSimpArgs false
namespace Z
def pok (p : S28) : Bool := decide (0 ≤ p.f0 ∧ p.f0 < 7 ∧ 0 ≤ p.f1 ∧ p.f1 < 7 ∧ p.f0 ≠ p.f1 ∧ (p.f2.length : Int) ≤ 1048576)
def lok (x : S55) : Bool := decide (0 ≤ x.f0 ∧ x.f0 < x.f1 ∧ x.f1 < 7)
def llt (x y : S55) : Bool := decide (x.f0 < y.f0 ∨ x.f0 = y.f0 ∧ x.f1 < y.f1)
/-- The links from the place a on. -/
def lks (l : List S55) : Nat → Nat → Bool
  | 0, _ => true
  | n + 1, a => lok (rd_T55 l a) && (decide (a = 0) || llt (rd_T55 l ((a - 1 : Nat) : Int)) (rd_T55 l a)) && lks l n (a + 1)
def net (q : List S28) (l : List S55) : Bool := decide (q.length ≤ 4096) && q.all pok && lks l l.length 0
def chk (q : List S28) (l : List S55) : Int := if net q l = true then 0 else 480
theorem packet_ (a b : Int) (d : List Int) : network_packet.f a b d = some (pok ⟨a, b, d⟩) := by
  have hv : network_link_valid.f (mn a b) (mx a b) = some (decide (0 ≤ a ∧ a < 7 ∧ 0 ≤ b ∧ b < 7 ∧ a ≠ b)) := by
    unfold network_link_valid.f mn mx
    repeat' split
    all_goals (congr 1; first | (rw [decide_eq_decide]; omega) | (symm; rw [decide_eq_false_iff_not]; omega))
  unfold network_packet.f network_between.f pok
  rw [Option.bind_some, hv, Option.bind_some]
  by_cases h : 0 ≤ a ∧ a < 7 ∧ 0 ≤ b ∧ b < 7 ∧ a ≠ b
  · rw [if_pos (decide_eq_true h)]
    congr 1
    rw [decide_eq_decide]
    simp only []
    omega
  · rw [if_neg (by rw [decide_eq_false h]; decide)]
    congr 1
    symm
    rw [decide_eq_false_iff_not]
    simp only []
    omega
theorem w64 (i : Nat) (h : i < 1000000) : wrap64 ((i : Int) + 1) = ((i + 1 : Nat) : Int) := by unfold wrap64; omega
theorem rd28 {l : List S28} {i : Nat} (h : i < l.length) : rd_T28 l (i : Int) = l[i] := by simp [rd_T28, List.getD_eq_getElem?_getD, List.getElem?_eq_getElem h]
theorem any_ (q : List S28) (hq : q.length ≤ 4096) : ∀ (n i k : Nat), n + i = q.length → n + 1 ≤ k → ∃ t, api_Packet_43.l0 k q (q.length : Int) (i : Int) = some t ∧ (decide (t ≥ 0) = !(q.drop i).all pok)
  | 0, i, k + 1, h, hk => by
    unfold api_Packet_43.l0
    rw [if_neg (by omega), List.drop_eq_nil_of_le (by omega)]
    exact ⟨_, rfl, by simp⟩
  | n + 1, i, k + 1, h, hk => by
    have hi : i < q.length := by omega
    obtain ⟨t, h1, h2⟩ := any_ q hq n (i + 1) k (by omega) (by omega)
    unfold api_Packet_43.l0 network_Check_1.f
    rw [if_pos (by omega), if_pos (by omega), if_pos (by omega), packet_, Option.bind_some, Option.bind_some, w64 i (by omega), h1, rd28 hi, List.drop_eq_getElem_cons hi, List.all_cons]
    cases hp : pok q[i] with
    | true => exact ⟨t, by simp [hp], by rw [h2]; simp [hp]⟩
    | false => exact ⟨i, by simp [hp], by simp [hp]⟩
theorem chkA_ (l : List S55) : ∀ (n a : Nat), chkA l n a = some (if lks l n a = true then 0 else 480)
  | 0, a => rfl
  | n + 1, a => by
    have ih := chkA_ l n (a + 1)
    unfold chkA lks network_link_valid.f
    rw [ih]
    generalize rd_T55 l a = x
    generalize rd_T55 l ((a - 1 : Nat) : Int) = p
    have hc : (0 < a ∧ 0 ≤ cmp2 p x) ↔ ¬ (a = 0 ∨ llt p x = true) := by
      unfold cmp2 llt
      rw [decide_eq_true_eq]
      repeat' split
      all_goals omega
    have hv : (if x.f0 ≥ 0 then (if x.f0 < x.f1 then some (decide (x.f1 < 7)) else some false) else some false) = some (lok x) := by
      unfold lok
      by_cases h1 : x.f0 ≥ 0 <;> by_cases h2 : x.f0 < x.f1 <;> simp [h1, h2]
    rw [hv, Option.bind_some]
    cases hx : lok x with
    | false => simp
    | true =>
      by_cases h : a = 0 ∨ llt p x = true
      · rw [if_pos rfl, if_neg (by rw [hc]; exact not_not_intro h)]
        have : (decide (a = 0) || llt p x) = true := by simpa using h
        rw [this]
        simp
      · rw [if_pos rfl, if_pos (hc.2 h)]
        have : (decide (a = 0) || llt p x) = false := by simpa using h
        rw [this]
        simp
theorem check_ (q : List S28) (l : List S55) : network_Check.f q l = some (chk q l) := by
  unfold network_Check.f chk net
  by_cases h : q.length ≤ 4096
  · rw [if_neg (by omega)]
    obtain ⟨t, h1, h2⟩ := any_ q h q.length 0 (q.length + 5) (by omega) (by omega)
    unfold api_Packet_30.f api_Packet_43.f
    rw [show ((0 : Nat) : Int) = 0 from rfl] at h1
    rw [h1, Option.bind_some, Option.bind_some, h2, List.drop_zero, chkA_]
    cases q.all pok <;> simp [h]
  · rw [if_pos (by omega)]
    simp [h]
theorem same_packet (p : S28) : sizarref48_SamePacket.f p.f0 p.f1 p.f2 p.f0 p.f1 p.f2 = some true := by
  unfold sizarref48_SamePacket.f
  simp
/-- What Send leaves. -/
def snd (q : List S28) (l : List S55) (p : S28) : List S28 × List S55 × Int := if net q l = true ∧ pok p = true then (if q.length = 4096 then ([], [], 2) else (q ++ [p], l, 0)) else ([], [], 480)
theorem net_len {q : List S28} {l : List S55} (h : net q l = true) : q.length ≤ 4096 := by
  simp [net] at h
  exact h.1.1
theorem send_ (q : List S28) (l : List S55) (p : S28) : network_Send.f q l p.f0 p.f1 p.f2 = some (snd q l p) := by
  unfold network_Send.f snd
  rw [check_, Option.bind_some, packet_, Option.bind_some, chk]
  cases hn : net q l with
  | false => simp
  | true =>
    have hl := net_len hn
    cases hp : pok p with
    | false => simp [hp]
    | true =>
      by_cases h : q.length = 4096
      · simp [h, hp]
      · rw [if_pos rfl, if_pos rfl, if_pos rfl, if_neg (by omega), if_pos (by omega), if_pos ⟨rfl, rfl⟩, if_neg h]
end Z
end Go.Proofs.Ytccmjndldffclaa.X
-- The laws of the package network: what the program's functions compute answers as the statements say.
namespace Go.Proofs.Ytccmjndldffclaa.X
open Go.RowKit Go.Proofs.YtccmjndldffclaaW.PrintWords
set_option linter.unusedVariables false
set_option linter.unusedSimpArgs false
open Z
theorem Z.sane : sizarlaw48_sane.f 300 = some true := by decide +kernel
end Go.Proofs.Ytccmjndldffclaa.X
-- What the functions that move packets compute, in plain lists.
namespace Go.Proofs.Ytccmjndldffclaa.X
open Go.RowKit Go.Proofs.YtccmjndldffclaaW.PrintWords
set_option linter.unusedVariables false
set_option linter.unusedSimpArgs false
namespace Z
/-- Without the packet at a place. -/
def wo (q : List S28) (i : Nat) : List S28 := q.take i ++ q.drop (i + 1)
theorem at_ (q : List S28) (l : List S55) (i : Nat) (hn : net q l = true) (hi : i < q.length) : network_at.f q l (i : Int) = some (q[i].f0, q[i].f1, q[i].f2, 0) := by
  unfold network_at.f
  rw [check_, Option.bind_some, chk, if_pos hn, if_pos rfl, if_neg (by omega), if_neg (by omega), if_pos (by omega), if_pos (by omega), rd28 hi]
theorem without_ (q : List S28) (l : List S55) (i : Nat) (hn : net q l = true) (hi : i < q.length) : network_without.f q l (i : Int) = some (wo q i, l) := by
  have := net_len hn
  unfold network_without.f wo
  rw [if_pos ⟨by omega, by omega, by omega⟩]
  rfl
def zp : S28 := ⟨0, 0, []⟩
/-- Is the link between two campuses cut? -/
def cut (l : List S55) (a b : Int) : Bool := cont l (mn a b) (mx a b)
/-- The packet that is delivered. -/
def got (l : List S55) (p : S28) : S28 := if cut l p.f0 p.f1 = true then zp else p
theorem deliver_ (q : List S28) (l : List S55) (i : Nat) (hl : l.length < 1000000) (hn : net q l = true) (hi : i < q.length) : network_Deliver.f q l (i : Int) = some ((got l q[i]).f0, (got l q[i]).f1, (got l q[i]).f2, wo q i, l, 0) := by
  unfold network_Deliver.f
  rw [at_ q l i hn hi, Option.bind_some]
  simp only []
  rw [if_pos trivial]
  unfold network_between.f
  rw [Option.bind_some, contains_cont _ _ _ (by omega), Option.bind_some, without_ q l i hn hi, Option.bind_some]
  unfold got cut
  cases cont l (mn q[i].f0 q[i].f1) (mx q[i].f0 q[i].f1) <;> simp [zp]
theorem net_sub {q q' : List S28} {l : List S55} (hn : net q l = true) (hs : ∀ p ∈ q', p ∈ q) (hl : q'.length ≤ 4096) : net q' l = true := by
  simp only [net, Bool.and_eq_true, List.all_eq_true, decide_eq_true_eq] at hn ⊢
  exact ⟨⟨hl, fun p hp => hn.1.2 p (hs p hp)⟩, hn.2⟩
theorem wo_len (q : List S28) (i : Nat) (hi : i < q.length) : (wo q i).length + 1 = q.length := by
  unfold wo
  rw [List.length_append, List.length_take, List.length_drop]
  omega
theorem wo_sub (q : List S28) (i : Nat) : ∀ p ∈ wo q i, p ∈ q := by
  intro p hp
  rcases List.mem_append.1 hp with h | h
  · exact List.mem_of_mem_take h
  · exact List.mem_of_mem_drop h
theorem net_wo {q : List S28} {l : List S55} (hn : net q l = true) (i : Nat) (hi : i < q.length) : net (wo q i) l = true :=
  net_sub hn (wo_sub q i) (by have := wo_len q i hi; have := net_len hn; omega)
theorem net_app {q : List S28} {l : List S55} (hn : net q l = true) {p : S28} (hp : pok p = true) (hq : q.length < 4096) : net (q ++ [p]) l = true := by
  simp only [net, Bool.and_eq_true, List.all_eq_true, decide_eq_true_eq] at hn ⊢
  refine ⟨⟨by simp; omega, fun x hx => ?_⟩, hn.2⟩
  rcases List.mem_append.1 hx with h | h
  · exact hn.1.2 x h
  · rw [List.mem_singleton.1 h]; exact hp
theorem snd_ok {q : List S28} {l : List S55} (hn : net q l = true) {p : S28} (hp : pok p = true) (hq : q.length < 4096) : snd q l p = (q ++ [p], l, 0) := by
  unfold snd
  rw [if_pos ⟨hn, hp⟩, if_neg (by omega)]
end Z
end Go.Proofs.Ytccmjndldffclaa.X
-- Without losses every packet is delivered once: the law.
namespace Go.Proofs.Ytccmjndldffclaa.X
open Go.RowKit Go.Proofs.YtccmjndldffclaaW.PrintWords
set_option linter.unusedVariables false
set_option linter.unusedSimpArgs false
open Z
theorem Z.got_nil (p : S28) : got [] p = p := by
  unfold got cut cont
  simp
theorem Z.all_j (os : List Int) (q : List S28) (i a k : Nat) (hq : q.length ≤ 12) (hi : i < 1000) (hn : net q [] = true) (ha : a < q.length) : sizarlaw48_NetworkAll.j2 (k + 1) os q (i : Int) (a : Int) q [] = sizarlaw48_NetworkAll.l1 k os (wo q a) ((i + 1 : Nat) : Int) (wo q a) [] := by
  rw [sizarlaw48_NetworkAll.j2, deliver_ q [] a (by simp) hn ha, Option.bind_some, got_nil]
  simp only []
  rw [if_pos trivial, if_pos (by omega), if_pos (by omega), rd28 ha, same_packet, Option.bind_some, if_pos rfl, Option.bind_some, if_pos (by omega), Option.bind_some, if_pos (by simp; omega), Option.bind_some, w64 a (by omega), if_pos (by omega), if_pos (by omega), Option.bind_some, if_pos (by simp; omega), w64 i (by omega)]
  rfl
theorem Z.all_1 (os : List Int) (hos : ∀ z ∈ os, (Lit.int .u8 z).wf = true) : ∀ (n k i : Nat) (q : List S28), q.length = n → n ≤ 12 → 2 * n + 1 ≤ k → i + n < 1000 → net q [] = true → sizarlaw48_NetworkAll.l1 k os q (i : Int) q [] = some true
  | 0, k + 1, i, q, hq, _, _, _, _ => by
    rw [sizarlaw48_NetworkAll.l1, if_neg (by omega), hq]
    rfl
  | n + 1, k + 2, i, q, hq, h12, hk, hi, hn => by
    have step : ∀ a, a < q.length → sizarlaw48_NetworkAll.j2 (k + 1) os q (i : Int) (a : Int) q [] = some true := fun a ha => by
      have hw := wo_len q a ha
      rw [all_j os q i a k (by omega) (by omega) hn ha]
      exact all_1 os hos n k (i + 1) (wo q a) (by omega) (by omega) (by omega) (by omega) (net_wo hn a ha)
    rw [sizarlaw48_NetworkAll.l1, if_pos (by omega)]
    by_cases h : (i : Int) < (os.length : Int)
    · rw [if_pos h, if_pos (by omega), if_neg (by omega)]
      have hil : i < os.length := by omega
      have hr : rd os (i : Int) = os[i] := by simp [rd, List.getD_eq_getElem?_getD, List.getElem?_eq_getElem hil]
      have hb : 0 ≤ os[i] ∧ os[i] ≤ 255 := by simpa [Lit.wf, IntKind.min, IntKind.max, IntKind.signed, IntKind.bits] using hos _ (List.getElem_mem hil)
      obtain ⟨m, hm⟩ := Int.eq_ofNat_of_zero_le hb.1
      rw [hr, hm, show wrap64 (m : Int) = (m : Int) from by unfold wrap64; omega, show Int.tmod (m : Int) (q.length : Int) = ((m % q.length : Nat) : Int) from rfl]
      exact step _ (Nat.mod_lt _ (by omega))
    · rw [if_neg h]
      exact step 0 (by omega)
theorem Z.all_0 (ls : List S28) (os : List Int) (hos : ∀ z ∈ os, (Lit.int .u8 z).wf = true) (hl : ls.length ≤ 12) : ∀ (n i k : Nat) (q : List S28), n + i = ls.length → q.length ≤ i → n + 26 ≤ k → net q [] = true → sizarlaw48_NetworkAll.l0 k ls os q (i : Int) q [] = some true
  | 0, i, k + 1, q, h, hq, hk, hn => by
    rw [sizarlaw48_NetworkAll.l0, if_neg (by omega)]
    exact all_1 os hos q.length k 0 q rfl (by omega) (by omega) (by omega) hn
  | n + 1, i, k + 1, q, h, hq, hk, hn => by
    have hi : i < ls.length := by omega
    rw [sizarlaw48_NetworkAll.l0, if_pos (by omega), if_pos (by omega), rd28 hi, send_, Option.bind_some, w64 i (by omega)]
    by_cases hp : pok ls[i] = true
    · rw [snd_ok hn hp (by omega)]
      simp only []
      rw [if_pos trivial, if_pos (by omega)]
      exact all_0 ls os hos hl n (i + 1) k (q ++ [ls[i]]) (by omega) (by simp; omega) (by omega) (net_app hn hp (by omega))
    · have hs : snd q [] ls[i] = ([], [], 480) := by unfold snd; rw [if_neg (fun h => hp h.2)]
      rw [hs]
      simp only []
      rw [if_neg (by decide)]
      exact all_0 ls os hos hl n (i + 1) k q (by omega) (by omega) (by omega) hn
theorem Pu.NetworkAll (ls : List S28) (os : List Int) (hos : ∀ z ∈ os, (Lit.int .u8 z).wf = true) : ∃ k, sizarlaw48_NetworkAll.f k ls os = some true := by
  refine ⟨300, ?_⟩
  unfold sizarlaw48_NetworkAll.f
  rw [sane, Option.bind_some, if_pos rfl]
  by_cases h : (ls.length : Int) > 12
  · rw [if_pos h]
  · rw [if_neg h]
    unfold network_New.f
    rw [Option.bind_some]
    exact all_0 ls os hos (by omega) ls.length 0 300 [] (by omega) (by simp) (by omega) (by decide)
end Go.Proofs.Ytccmjndldffclaa.X
-- The row of the law NetworkAll, out of its pure proof and its walk (written by wip/mkrow.py).
namespace Go.Proofs.Ytccmjndldffclaa.networkAll
open Go.ChangeShapes Go.WideShapes Go.ChangeAt Go.RowKit Go.Proofs.YtccmjndldffclaaW.PrintWords Go.Proofs.YtccmjndldffclaaW.Opn Go.Proofs.Ytccmjndldffclaa.X
open Go.ChangeMaps (open_string shut_string)
set_option linter.unusedVariables false
theorem own : ownKnob Try.prog.godebug = none := by kernel_rfl
theorem laidOut : laidOutB Try.prog = true := by kernel_rfl
set_option maxRecDepth 100000 in
theorem lifted (os : Os) (started : os.Started) (H : Type) (enc : TypeId × Value → H) :
    ReturnsInHanded {} Try.checked os 4 .any (Rows.networkAllSpec.pre6 enc Try.prog Try.f4 Rows.networkAllRow.domain false) (Rows.networkAllSpec.post enc Try.prog Try.f4 false true false false) := by
  refine returnsInHanded_of_change_sized (C := Try.checked) own started (by kernel_rfl) Try.func4
    (ChangeSpec.witness6 (enc := enc) (C := Try.checked) false ⟨#[], #[.slice none 0 0, .slice none 0 0], []⟩ 8 (by kernel_rfl) (by kernel_rfl) (by kernel_rfl) (by kernel_rfl)) ?_
  intro W base args ds gs before hval0 hW hcnd hsz0 _
  have hval : ∀ (j : Nat) t v, Try.f4.params[j]? = some t → args[j]? = some v → Value.okWide Try.prog W .any base t v := hval0
  have hW' := hW
  obtain ⟨p, q, hA0, hV, rfl, hfz, hnd⟩ := hW
  have hA : DataW.TrodAll enc Try.prog W 0 (fun _ => true) true Try.f4.params.toList args.toList ds p := hA0
  rw [Try.params4] at hA hval
  obtain ⟨v0, vs0, d0, ds0, p0, q0, hargs, rfl, rfl, h0, r0⟩ := trodAll_cons hA
  obtain ⟨v1, vs1, d1, ds1, p1, q1, rfl, rfl, rfl, h1, r1⟩ := trodAll_cons r0
  obtain ⟨rfl, rfl, rfl⟩ := trodAll_nil r1
  obtain rfl : args = #[v0, v1] := by cases args; simp_all
  obtain ⟨rfl, rfl⟩ := trodVars_none hV
  have k0 := h0
  have lt0 : ∀ x ∈ p0, x.block < W.heap.size := by obtain ⟨m, hm⟩ := k0; exact DataW.trod_lt m _ _ _ hm
  obtain ⟨A0, c0, l0, rfl, hc0, hr0, ho0⟩ := Opens.arg_slice op28 Try.underlying22 (hval 0 22 v0 rfl rfl) h0
  have k1 := h1
  have lt1 : ∀ x ∈ p1, x.block < W.heap.size := by obtain ⟨m, hm⟩ := k1; exact DataW.trod_lt m _ _ _ hm
  obtain ⟨A1, c1, l1, rfl, hc1, hr1, ho1⟩ := Opens.arg_slice op5w Try.underlying26 (hval 1 26 v1 rfl rfl) h1
  clear hA0 hval0 hsz0
  obtain ⟨k, hk_⟩ := Pu.NetworkAll l0 l1 ho1
  refine (sizarlaw48_NetworkAll.calls k (fun k_ => k_ < W.heap.size) A0 c0 l0 A1 c1 l1 true W (Kd.V_mk hc0 (Kd.C_F k28_heap hr0)) hr1 hc1 hk_).mono fun e W' ⟨he, bel0⟩ => ?_
  have bel : Below W.heap.size W W' := bel0
  subst he
  exact ⟨_, rfl, _, _, _, [], _, [], hW', trodAll_mk1 (shut_bool Try.underlying4 _), (trodAll_cons_mk (Below.trod laidOut (by kernel_rfl) (of_decide_eq_true (by kernel_rfl)) k0 bel lt0) (trodAll_cons_mk (Below.trod laidOut (by kernel_rfl) (of_decide_eq_true (by kernel_rfl)) k1 bel lt1) trodAll_mk0)), rfl, bel.frame _, fun h => by cases h⟩
theorem over : Rows.networkAllRow.holds Try.pinned (OpenSpec.ofChange Rows.networkAllSpec) :=
  OpenClaim.holds_of_wide 4 Try.f4 rfl rfl rfl rfl rfl rfl rfl ⟨rfl, rfl, rfl, rfl, rfl⟩ rfl rfl rfl rfl rfl (by kernel_rfl) Try.func4 (by kernel_rfl)
    (of_decide_eq_true (by kernel_rfl)) (by unfold Func.isWrapper; first | (rw [if_pos (by decide +kernel)]; kernel_rfl) | (rw [if_neg (by decide +kernel)]; exact ⟨rfl, rfl⟩))
    (fun os started H enc _ => lifted os started H enc)
end Go.Proofs.Ytccmjndldffclaa.networkAll
namespace Go.Proofs.Ytccmjndldffclaa
/-- The row, under a short name, for the claim. -/
theorem networkAll_holds : Rows.NetworkAllSaid := networkAll.over
#print axioms networkAll_holds
end Go.Proofs.Ytccmjndldffclaa
