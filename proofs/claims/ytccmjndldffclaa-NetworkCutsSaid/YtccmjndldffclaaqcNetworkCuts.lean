/- The law NetworkCuts is proved, whatever its input: no condition. -/
import Derived.Test.Ytccmjndldffclaaqcb5
import Derived.ChangeOld
import Derived.OpenShut
import Derived.ProofKit
import Derived.ShutString
import Derived.SizedLaws
import Derived.Test.YtccmjndldffclaaRows
-- What the functions of the package network and of its reference compute, in plain lists.
namespace Go.Proofs.Ytccmjndldffclaa.X
open Go.RowKit Go.Proofs.YtccmjndldffclaaW.PrintWords
set_option linter.unusedVariables false
set_option linter.unusedSimpArgs false
namespace Z
def pok (p : S28) : Bool := decide (0 ≤ p.f0 ∧ p.f0 < 7 ∧ 0 ≤ p.f1 ∧ p.f1 < 7 ∧ p.f0 ≠ p.f1 ∧ (p.f2.length : Int) ≤ 1048576)
def lok (x : S55) : Bool := decide (0 ≤ x.f0 ∧ x.f0 < x.f1 ∧ x.f1 < 7)
def llt (x y : S55) : Bool := decide (x.f0 < y.f0 ∨ x.f0 = y.f0 ∧ x.f1 < y.f1)
/-- The links from the place a on. -/
def lks (l : List S55) : Nat → Nat → Bool
  | 0, _ => true
  | n + 1, a => lok (rd_T55 l a) && (decide (a = 0) || llt (rd_T55 l ((a - 1 : Nat) : Int)) (rd_T55 l a)) && lks l n (a + 1)
def net (q : List S28) (l : List S55) : Bool := decide (q.length ≤ 4096) && q.all pok && lks l l.length 0
def chk (q : List S28) (l : List S55) : Int := if net q l = true then 0 else 480
theorem packet_ (a b : Int) (d : List Int) : network_packet.f a b d = some (pok ⟨a, b, d⟩) := by
  have hv : network_link_valid.f (mn a b) (mx a b) = some (decide (0 ≤ a ∧ a < 7 ∧ 0 ≤ b ∧ b < 7 ∧ a ≠ b)) := by
    unfold network_link_valid.f mn mx
    repeat' split
    all_goals (congr 1; first | (rw [decide_eq_decide]; omega) | (symm; rw [decide_eq_false_iff_not]; omega))
  unfold network_packet.f network_between.f pok
  rw [Option.bind_some, hv, Option.bind_some]
  by_cases h : 0 ≤ a ∧ a < 7 ∧ 0 ≤ b ∧ b < 7 ∧ a ≠ b
  · rw [if_pos (decide_eq_true h)]
    congr 1
    rw [decide_eq_decide]
    simp only []
    omega
  · rw [if_neg (by rw [decide_eq_false h]; decide)]
    congr 1
    symm
    rw [decide_eq_false_iff_not]
    simp only []
    omega
theorem w64 (i : Nat) (h : i < 1000000) : wrap64 ((i : Int) + 1) = ((i + 1 : Nat) : Int) := by unfold wrap64; omega
theorem rd28 {l : List S28} {i : Nat} (h : i < l.length) : rd_T28 l (i : Int) = l[i] := by simp [rd_T28, List.getD_eq_getElem?_getD, List.getElem?_eq_getElem h]
theorem rd55 {l : List S55} {i : Nat} (h : i < l.length) : rd_T55 l (i : Int) = l[i] := by simp [rd_T55, List.getD_eq_getElem?_getD, List.getElem?_eq_getElem h]
theorem any_ (q : List S28) (hq : q.length ≤ 4096) : ∀ (n i k : Nat), n + i = q.length → n + 1 ≤ k → ∃ t, api_Packet_43.l0 k q (q.length : Int) (i : Int) = some t ∧ (decide (t ≥ 0) = !(q.drop i).all pok)
  | 0, i, k + 1, h, hk => by
    unfold api_Packet_43.l0
    rw [if_neg (by omega), List.drop_eq_nil_of_le (by omega)]
    exact ⟨_, rfl, by simp⟩
  | n + 1, i, k + 1, h, hk => by
    have hi : i < q.length := by omega
    obtain ⟨t, h1, h2⟩ := any_ q hq n (i + 1) k (by omega) (by omega)
    unfold api_Packet_43.l0 network_Check_1.f
    rw [if_pos (by omega), if_pos (by omega), if_pos (by omega), packet_, Option.bind_some, Option.bind_some, w64 i (by omega), h1, rd28 hi, List.drop_eq_getElem_cons hi, List.all_cons]
    cases hp : pok q[i] with
    | true => exact ⟨t, by simp [hp], by rw [h2]; simp [hp]⟩
    | false => exact ⟨i, by simp [hp], by simp [hp]⟩
theorem chkA_ (l : List S55) : ∀ (n a : Nat), chkA l n a = some (if lks l n a = true then 0 else 480)
  | 0, a => rfl
  | n + 1, a => by
    have ih := chkA_ l n (a + 1)
    unfold chkA lks network_link_valid.f
    rw [ih]
    generalize rd_T55 l a = x
    generalize rd_T55 l ((a - 1 : Nat) : Int) = p
    have hc : (0 < a ∧ 0 ≤ cmp2 p x) ↔ ¬ (a = 0 ∨ llt p x = true) := by
      unfold cmp2 llt
      rw [decide_eq_true_eq]
      repeat' split
      all_goals omega
    have hv : (if x.f0 ≥ 0 then (if x.f0 < x.f1 then some (decide (x.f1 < 7)) else some false) else some false) = some (lok x) := by
      unfold lok
      by_cases h1 : x.f0 ≥ 0 <;> by_cases h2 : x.f0 < x.f1 <;> simp [h1, h2]
    rw [hv, Option.bind_some]
    cases hx : lok x with
    | false => simp
    | true =>
      by_cases h : a = 0 ∨ llt p x = true
      · rw [if_pos rfl, if_neg (by rw [hc]; exact not_not_intro h)]
        have : (decide (a = 0) || llt p x) = true := by simpa using h
        rw [this]
        simp
      · rw [if_pos rfl, if_pos (hc.2 h)]
        have : (decide (a = 0) || llt p x) = false := by simpa using h
        rw [this]
        simp
theorem check_ (q : List S28) (l : List S55) : network_Check.f q l = some (chk q l) := by
  unfold network_Check.f chk net
  by_cases h : q.length ≤ 4096
  · rw [if_neg (by omega)]
    obtain ⟨t, h1, h2⟩ := any_ q h q.length 0 (q.length + 5) (by omega) (by omega)
    unfold api_Packet_30.f api_Packet_43.f
    rw [show ((0 : Nat) : Int) = 0 from rfl] at h1
    rw [h1, Option.bind_some, Option.bind_some, h2, List.drop_zero, chkA_]
    cases q.all pok <;> simp [h]
  · rw [if_pos (by omega)]
    simp [h]
theorem same_packet (p : S28) : sizarref48_SamePacket.f p.f0 p.f1 p.f2 p.f0 p.f1 p.f2 = some true := by
  unfold sizarref48_SamePacket.f
  simp
theorem same1 (q : List S28) (l : List S55) (hl : l.length < 1000000) : ∀ (n i k : Nat), n + i = l.length → n + 1 ≤ k → sizarref48_Same.l1 k (i : Int) q l q l = some true
  | 0, i, k + 1, h, hk => by
    unfold sizarref48_Same.l1
    rw [if_neg (by omega)]
  | n + 1, i, k + 1, h, hk => by
    unfold sizarref48_Same.l1
    rw [if_pos (by omega), if_pos (by omega), if_pos (by omega), w64 i (by omega), same1 q l hl n (i + 1) k (by omega) (by omega)]
    simp
theorem same0 (q : List S28) (l : List S55) (hq : q.length < 1000000) (hl : l.length < 1000000) : ∀ (n i k : Nat), n + i = q.length → n + 1 + (l.length + 1) ≤ k → sizarref48_Same.l0 k (i : Int) q l q l = some true
  | 0, i, k + 1, h, hk => by
    unfold sizarref48_Same.l0
    rw [if_neg (by omega)]
    have := same1 q l hl l.length 0 k (by omega) (by omega)
    rwa [show ((0 : Nat) : Int) = 0 from rfl] at this
  | n + 1, i, k + 1, h, hk => by
    unfold sizarref48_Same.l0
    rw [if_pos (by omega), if_pos (by omega), if_pos (by omega), same_packet, Option.bind_some, w64 i (by omega), same0 q l hq hl n (i + 1) k (by omega) (by omega)]
    simp
theorem same_ (q : List S28) (l : List S55) (k : Nat) (hq : q.length < 1000000) (hl : l.length < 1000000) (hk : q.length + l.length + 3 ≤ k) : sizarref48_Same.f k q l q l = some true := by
  obtain ⟨m, rfl⟩ : ∃ m, k = m + 1 := ⟨k - 1, by omega⟩
  have := same0 q l hq hl q.length 0 m (by omega) (by omega)
  rw [show ((0 : Nat) : Int) = 0 from rfl] at this
  unfold sizarref48_Same.f
  rw [if_pos rfl]
  simp [sizarref48_Same.j0, this]
theorem net_len {q : List S28} {l : List S55} (h : net q l = true) : q.length ≤ 4096 := by
  simp [net] at h
  exact h.1.1
end Z
end Go.Proofs.Ytccmjndldffclaa.X
-- The laws of the package network: what the program's functions compute answers as the statements say.
namespace Go.Proofs.Ytccmjndldffclaa.X
open Go.RowKit Go.Proofs.YtccmjndldffclaaW.PrintWords
set_option linter.unusedVariables false
set_option linter.unusedSimpArgs false
open Z
theorem Z.sane : sizarlaw48_sane.f 300 = some true := by decide +kernel
theorem Z.few (q : List S28) (l : List S55) : sizarref48_Few.f q l = some (decide (q.length ≤ 40 ∧ l.length ≤ 40)) := by
  unfold sizarref48_Few.f
  split
  all_goals (congr 1; first | (rw [decide_eq_decide]; omega) | (symm; rw [decide_eq_false_iff_not]; omega))
end Go.Proofs.Ytccmjndldffclaa.X
-- What the functions that move packets compute, in plain lists.
namespace Go.Proofs.Ytccmjndldffclaa.X
open Go.RowKit Go.Proofs.YtccmjndldffclaaW.PrintWords
set_option linter.unusedVariables false
set_option linter.unusedSimpArgs false
namespace Z
/-- Without the packet at a place. -/
def wo (q : List S28) (i : Nat) : List S28 := q.take i ++ q.drop (i + 1)
theorem at_ (q : List S28) (l : List S55) (i : Nat) (hn : net q l = true) (hi : i < q.length) : network_at.f q l (i : Int) = some (q[i].f0, q[i].f1, q[i].f2, 0) := by
  unfold network_at.f
  rw [check_, Option.bind_some, chk, if_pos hn, if_pos rfl, if_neg (by omega), if_neg (by omega), if_pos (by omega), if_pos (by omega), rd28 hi]
theorem without_ (q : List S28) (l : List S55) (i : Nat) (hn : net q l = true) (hi : i < q.length) : network_without.f q l (i : Int) = some (wo q i, l) := by
  have := net_len hn
  unfold network_without.f wo
  rw [if_pos ⟨by omega, by omega, by omega⟩]
  rfl
def zp : S28 := ⟨0, 0, []⟩
/-- Is the link between two campuses cut? -/
def cut (l : List S55) (a b : Int) : Bool := cont l (mn a b) (mx a b)
/-- The packet that is delivered. -/
def got (l : List S55) (p : S28) : S28 := if cut l p.f0 p.f1 = true then zp else p
theorem deliver_ (q : List S28) (l : List S55) (i : Nat) (hl : l.length < 1000000) (hn : net q l = true) (hi : i < q.length) : network_Deliver.f q l (i : Int) = some ((got l q[i]).f0, (got l q[i]).f1, (got l q[i]).f2, wo q i, l, 0) := by
  unfold network_Deliver.f
  rw [at_ q l i hn hi, Option.bind_some]
  simp only []
  rw [if_pos trivial]
  unfold network_between.f
  rw [Option.bind_some, contains_cont _ _ _ (by omega), Option.bind_some, without_ q l i hn hi, Option.bind_some]
  unfold got cut
  cases cont l (mn q[i].f0 q[i].f1) (mx q[i].f0 q[i].f1) <;> simp [zp]
theorem pok_at {q : List S28} {l : List S55} (hn : net q l = true) {p : S28} (hp : p ∈ q) : pok p = true := by
  simp only [net, Bool.and_eq_true, List.all_eq_true] at hn
  exact hn.1.2 p hp
end Z
end Go.Proofs.Ytccmjndldffclaa.X
-- The functions that move packets answer as the reference's: the law.
namespace Go.Proofs.Ytccmjndldffclaa.X
open Go.RowKit Go.Proofs.YtccmjndldffclaaW.PrintWords
set_option linter.unusedVariables false
set_option linter.unusedSimpArgs false
open Z
/-- What Cut answers. -/
def Z.ct (q : List S28) (l : List S55) (a b : Int) (on : Bool) : List S28 × List S55 × Int := if net q l = true then (if 0 ≤ a ∧ a < 7 ∧ 0 ≤ b ∧ b < 7 ∧ a ≠ b then (q, toldL l ⟨mn a b, mx a b⟩ on (allL 7), 0) else ([], [], 1)) else ([], [], 480)
theorem Z.valid_ (a b : Int) : network_link_valid.f (mn a b) (mx a b) = some (decide (0 ≤ a ∧ a < 7 ∧ 0 ≤ b ∧ b < 7 ∧ a ≠ b)) := by
  unfold network_link_valid.f mn mx
  repeat' split
  all_goals (congr 1; first | (rw [decide_eq_decide]; omega) | (symm; rw [decide_eq_false_iff_not]; omega))
theorem Z.ct_ (q : List S28) (l : List S55) (a b : Int) (on : Bool) : network_Cut.f q l a b on = some (ct q l a b on) := by
  unfold network_Cut.f ct network_between.f
  rw [check_, Option.bind_some, Option.bind_some, valid_, Option.bind_some, chk]
  by_cases hn : net q l = true
  · rw [if_pos hn, if_pos hn, if_pos rfl]
    by_cases hv : 0 ≤ a ∧ a < 7 ∧ 0 ≤ b ∧ b < 7 ∧ a ≠ b
    · rw [if_pos (decide_eq_true hv), if_pos hv]
    · rw [if_neg (by rw [decide_eq_false hv]; decide), if_neg hv]
  · rw [if_neg hn, if_neg hn, if_neg (by decide)]
theorem Z.allL7 : (allL 7).length = 21 := by decide
end Go.Proofs.Ytccmjndldffclaa.X
-- What is delivered has been sent: the law.
namespace Go.Proofs.Ytccmjndldffclaa.X
open Go.RowKit Go.Proofs.YtccmjndldffclaaW.PrintWords
set_option linter.unusedVariables false
set_option linter.unusedSimpArgs false
open Z
/-! The links that are left after a cut are in order. -/
theorem Z.lks_pw (l : List S55) (hok : ∀ x ∈ l, lok x = true) (hpw : l.Pairwise (fun x y => llt x y = true)) (hl : l.length < 1000000) : ∀ (n a : Nat), n + a = l.length → lks l n a = true
  | 0, a, h => rfl
  | n + 1, a, h => by
    have ha : a < l.length := by omega
    rw [lks, lks_pw l hok hpw hl n (a + 1) (by omega), rd55 ha, hok _ (List.getElem_mem ha)]
    cases a with
    | zero => simp
    | succ a =>
      have ha' : a < l.length := by omega
      have h1 : llt l[a] l[a + 1] = true := List.pairwise_iff_getElem.1 hpw a (a + 1) ha' ha (by omega)
      rw [show a + 1 - 1 = a from by omega, rd55 ha', h1]
      simp
theorem Z.allL_ok : ∀ x ∈ allL 7, lok x = true := by decide
theorem Z.allL_pw : (allL 7).Pairwise (fun x y => llt x y = true) := by decide
theorem Z.toldL_len7 (l : List S55) (c : S55) (on : Bool) : (toldL l c on (allL 7)).length ≤ 21 := by
  have h := List.length_filter_le (keepL l c on) (allL 7)
  rwa [allL7] at h
theorem Z.net_cut {q : List S28} {l : List S55} (hn : net q l = true) (c : S55) (on : Bool) : net q (toldL l c on (allL 7)) = true := by
  simp only [net, Bool.and_eq_true, decide_eq_true_eq] at hn ⊢
  have hlen := toldL_len7 l c on
  exact ⟨hn.1, lks_pw (toldL l c on (allL 7)) (fun x hx => allL_ok x (List.mem_filter.1 hx).1) (List.Pairwise.filter _ allL_pw) (by omega) _ 0 (by omega)⟩
def Z.hpk (m : S52) : S28 := ⟨Int.tmod (wrap64 m.f2) 7, Int.tmod (wrap64 m.f3) 7, [m.f4]⟩
/-! The law. -/
structure Z.Inv (q : List S28) (l : List S55) (sent : List S28) (cuts i : Nat) : Prop where
  nt : net q l = true
  sn : ∀ p ∈ q, p ∈ sent
  cz : cuts = 0 → l = []
  ln : l.length ≤ 21
  ci : cuts ≤ i
  si : sent.length ≤ i
theorem Z.same_some (p p' : S28) : ∃ b, sizarref48_SamePacket.f p.f0 p.f1 p.f2 p'.f0 p'.f1 p'.f2 = some b := by
  unfold sizarref48_SamePacket.f
  repeat' split
  all_goals exact ⟨_, rfl⟩
end Go.Proofs.Ytccmjndldffclaa.X
-- Losing a packet: the law.
namespace Go.Proofs.Ytccmjndldffclaa.X
open Go.RowKit Go.Proofs.YtccmjndldffclaaW.PrintWords
set_option linter.unusedVariables false
set_option linter.unusedSimpArgs false
open Z
theorem Z.umod {a : Int} (w1 : (Lit.int .u64 a).wf = true) (n : Nat) (h0 : 0 < n) (h1 : n ≤ 40) : IntKind.u64.wrap (n : Int) = (n : Int) ∧ wrap64 (Int.tmod a (n : Int)) = ((a.toNat % n : Nat) : Int) := by
  have ha : 0 ≤ a := by
    have hu : 0 ≤ a ∧ a ≤ 18446744073709551615 := by simpa [Lit.wf, IntKind.min, IntKind.max, IntKind.signed, IntKind.bits] using w1
    exact hu.1
  obtain ⟨m, rfl⟩ := Int.eq_ofNat_of_zero_le ha
  have hm : m % n < n := Nat.mod_lt _ h0
  refine ⟨by unfold IntKind.wrap; simp [IntKind.bits, IntKind.signed]; omega, ?_⟩
  rw [show Int.tmod (m : Int) (n : Int) = ((m % n : Nat) : Int) from rfl]
  unfold wrap64
  simp only [Int.toNat_natCast]
  omega
end Go.Proofs.Ytccmjndldffclaa.X
-- A cut works in both directions, and on no other link: the law.
namespace Go.Proofs.Ytccmjndldffclaa.X
open Go.RowKit Go.Proofs.YtccmjndldffclaaW.PrintWords
set_option linter.unusedVariables false
set_option linter.unusedSimpArgs false
open Z
theorem Z.cont_mem {l : List S55} {x : S55} : cont l x.f0 x.f1 = true ↔ x ∈ l := by
  unfold cont
  rw [List.any_eq_true]
  constructor
  · rintro ⟨y, hy, h⟩
    rw [Bool.and_eq_true, beq_iff_eq, beq_iff_eq] at h
    obtain ⟨x0, x1⟩ := x
    obtain ⟨y0, y1⟩ := y
    obtain ⟨rfl, rfl⟩ := h
    exact hy
  · intro h
    exact ⟨x, h, by simp⟩
theorem Z.cont_filter (g : S55 → Bool) {x : S55} {xs : List S55} (hx : x ∈ xs) : cont (xs.filter g) x.f0 x.f1 = g x := by
  rw [Bool.eq_iff_iff, cont_mem, List.mem_filter]
  exact ⟨fun h => h.2, fun h => ⟨hx, h⟩⟩
theorem Z.told_told (l : List S55) (c : S55) (on on' : Bool) : toldL (toldL l c on (allL 7)) c on' (allL 7) = toldL l c on' (allL 7) := by
  unfold toldL
  refine List.filter_congr (fun x hx => ?_)
  unfold keepL
  by_cases h : (x.f0 == c.f0 && x.f1 == c.f1) = true
  · rw [if_pos h, if_pos h]
  · rw [if_neg h, if_neg h]
    have := cont_filter (keepL l c on) hx
    unfold keepL at this
    rw [if_neg h] at this
    exact this
theorem Z.told_len (l : List S55) (c : S55) : ∀ (xs : List S55), xs.Pairwise (fun x y => llt x y = true) → (c ∈ xs → (toldL l c true xs).length = (toldL l c false xs).length + 1) ∧ (¬ c ∈ xs → (toldL l c true xs).length = (toldL l c false xs).length)
  | [], _ => ⟨fun h => (by cases h), fun _ => rfl⟩
  | x :: xs, hp => by
    obtain ⟨h1, h2⟩ := List.pairwise_cons.1 hp
    obtain ⟨ih1, ih2⟩ := told_len l c xs h2
    have hk : ∀ on, keepL l c on x = if (x.f0 == c.f0 && x.f1 == c.f1) = true then on else cont l x.f0 x.f1 := fun on => rfl
    unfold toldL at ih1 ih2 ⊢
    by_cases hx : (x.f0 == c.f0 && x.f1 == c.f1) = true
    · have hxc : x = c := by
        rw [Bool.and_eq_true, beq_iff_eq, beq_iff_eq] at hx
        obtain ⟨x0, x1⟩ := x
        obtain ⟨c0, c1⟩ := c
        obtain ⟨rfl, rfl⟩ := hx
        rfl
      have hn : ¬ c ∈ xs := fun h => by
        have := h1 c h
        rw [hxc] at this
        simp [llt] at this
      rw [List.filter_cons, List.filter_cons, hk, hk, if_pos hx, if_pos hx, if_pos rfl, if_neg (by decide), List.length_cons, ih2 hn]
      exact ⟨fun _ => rfl, fun h => absurd (by rw [hxc]; exact List.mem_cons_self) h⟩
    · have hxc : ¬ c = x := fun h => hx (by rw [h]; simp)
      rw [List.filter_cons, List.filter_cons, hk, hk, if_neg hx, if_neg hx]
      have hm : c ∈ x :: xs ↔ c ∈ xs := by rw [List.mem_cons]; exact ⟨fun h => h.resolve_left hxc, .inr⟩
      rw [hm]
      cases cont l x.f0 x.f1 with
      | true => exact ⟨fun h => by rw [if_pos rfl, if_pos rfl, List.length_cons, List.length_cons, ih1 h], fun h => by rw [if_pos rfl, if_pos rfl, List.length_cons, List.length_cons, ih2 h]⟩
      | false => exact ⟨fun h => by rw [if_neg (by decide), if_neg (by decide), ih1 h], fun h => by rw [if_neg (by decide), if_neg (by decide), ih2 h]⟩
theorem Z.all_cont : ∀ x : Fin 7, ∀ y : Fin 7, x.val < y.val → cont (allL 7) (x.val : Int) (y.val : Int) = true := by decide
theorem Z.all_mem {a b : Int} (h : 0 ≤ a ∧ a < 7 ∧ 0 ≤ b ∧ b < 7 ∧ a ≠ b) : (⟨mn a b, mx a b⟩ : S55) ∈ allL 7 := by
  rw [← cont_mem]
  have h1 : 0 ≤ mn a b ∧ mn a b < mx a b ∧ mx a b < 7 := by
    unfold mn mx
    repeat' split
    all_goals omega
  obtain ⟨x, hx⟩ := Int.eq_ofNat_of_zero_le h1.1
  obtain ⟨y, hy⟩ := Int.eq_ofNat_of_zero_le (show 0 ≤ mx a b by omega)
  rw [hx, hy] at h1
  have := all_cont ⟨x, by omega⟩ ⟨y, by omega⟩ (by show x < y; omega)
  rw [hx, hy]
  exact this
theorem Z.mn_comm (a b : Int) : mn a b = mn b a := by
  unfold mn
  repeat' split
  all_goals omega
theorem Z.mx_comm (a b : Int) : mx a b = mx b a := by
  unfold mx
  repeat' split
  all_goals omega
theorem Z.ends {a b x y : Int} (h0 : mn x y = mn a b) (h1 : mx x y = mx a b) : x = a ∧ y = b ∨ x = b ∧ y = a := by
  unfold mn at h0
  unfold mx at h1
  split at h0 <;> split at h0 <;> split at h1 <;> split at h1 <;> omega
theorem Z.btw {α : Type} (f : Bool → α) (x y a b : Int) : (if x = a then (if y = b then f true else (if x = b then f (y == a) else f false)) else (if x = b then f (y == a) else f false)) = f ((x == a && y == b) || (x == b && y == a)) := by
  by_cases h1 : x = a
  · by_cases h2 : y = b
    · rw [if_pos h1, if_pos h2, beq_iff_eq.mpr h1, beq_iff_eq.mpr h2]; rfl
    · rw [if_pos h1, if_neg h2, show (y == b) = false from beq_eq_false_iff_ne.mpr h2, Bool.and_false, Bool.false_or]
      by_cases h3 : x = b
      · rw [if_pos h3, beq_iff_eq.mpr h3]; rfl
      · rw [if_neg h3, show (x == b) = false from beq_eq_false_iff_ne.mpr h3]; rfl
  · rw [if_neg h1, show (x == a) = false from beq_eq_false_iff_ne.mpr h1, Bool.false_and, Bool.false_or]
    by_cases h3 : x = b
    · rw [if_pos h3, beq_iff_eq.mpr h3]; rfl
    · rw [if_neg h3, show (x == b) = false from beq_eq_false_iff_ne.mpr h3]; rfl
theorem Pu.NetworkCuts (y : SN) (a : Int) (w1 : (Lit.int .i64 a).wf = true) (b : Int) (w2 : (Lit.int .i64 b).wf = true) (at_ : Int) (w3 : (Lit.int .u64 at_).wf = true) : ∃ k, sizarlaw48_NetworkCuts.f k y.q y.l a b at_ = some true := by
  obtain ⟨q, l⟩ := y
  refine ⟨300, ?_⟩
  have hj : ∀ q l, sizarlaw48_NetworkCuts.j0 300 a b at_ true q l = some true := fun q l => by simp [sizarlaw48_NetworkCuts.j0]
  unfold sizarlaw48_NetworkCuts.f
  simp only []
  rw [sane, Option.bind_some, if_pos rfl, few, Option.bind_some]
  by_cases h : q.length ≤ 40 ∧ l.length ≤ 40
  · rw [if_pos (decide_eq_true h), check_, Option.bind_some, chk]
    by_cases hn : net q l = true
    · obtain ⟨hq40, hl40⟩ := h
      rw [if_pos hn, show ((0 : Int) != 0) = false from rfl, show (300 : Nat) = 298 + 1 + 1 from rfl, sizarlaw48_NetworkCuts.j0, if_neg (by decide), ct_, Option.bind_some]
      by_cases hv : 0 ≤ a ∧ a < 7 ∧ 0 ≤ b ∧ b < 7 ∧ a ≠ b
      · have hv' : 0 ≤ b ∧ b < 7 ∧ 0 ≤ a ∧ a < 7 ∧ b ≠ a := ⟨hv.2.2.1, hv.2.2.2.1, hv.1, hv.2.1, Ne.symm hv.2.2.2.2⟩
        obtain ⟨c, hc⟩ : ∃ c : S55, (⟨mn a b, mx a b⟩ : S55) = c := ⟨_, rfl⟩
        have hc' : (⟨mn b a, mx b a⟩ : S55) = c := by rw [mn_comm b a, mx_comm b a]; exact hc
        obtain ⟨T, hT⟩ : ∃ T, toldL l c true (allL 7) = T := ⟨_, rfl⟩
        obtain ⟨M, hM⟩ : ∃ M, toldL l c false (allL 7) = M := ⟨_, rfl⟩
        have nT : net q T = true := hT ▸ net_cut hn c true
        have nM : net q M = true := hM ▸ net_cut hn c false
        have lT : T.length ≤ 21 := hT ▸ toldL_len7 l c true
        have lM : M.length ≤ 21 := hM ▸ toldL_len7 l c false
        have hTT : toldL T c true (allL 7) = T := by rw [← hT, told_told]
        have hTM : toldL T c false (allL 7) = M := by rw [← hT, told_told, hM]
        have hcm : c ∈ allL 7 := hc ▸ all_mem hv
        have hlen : T.length = M.length + 1 := by rw [← hT, ← hM]; exact (told_len l c (allL 7) allL_pw).1 hcm
        have e1 : ct q l a b true = (q, T, 0) := by unfold ct; rw [if_pos hn, if_pos hv, hc, hT]
        have e2 : ct q l b a true = (q, T, 0) := by unfold ct; rw [if_pos hn, if_pos hv', hc', hT]
        have e3 : ct q T a b true = (q, T, 0) := by unfold ct; rw [if_pos nT, if_pos hv, hc, hTT]
        have e4 : ct q T b a false = (q, M, 0) := by unfold ct; rw [if_pos nT, if_pos hv', hc', hTM]
        have e5 : ct q l a b false = (q, M, 0) := by unfold ct; rw [if_pos hn, if_pos hv, hc, hM]
        have s1 := same_ q T (298 + 1) (by omega) (by omega) (by omega)
        have s2 := same_ q M (298 + 1) (by omega) (by omega) (by omega)
        rw [e1]
        simp only []
        rw [if_pos trivial, ct_, Option.bind_some, e2, ct_, Option.bind_some, e3, ct_, Option.bind_some, e4, ct_, Option.bind_some, e5]
        simp only []
        rw [if_pos trivial, if_pos trivial, if_pos trivial, if_pos trivial, s1, Option.bind_some, if_pos rfl, Option.bind_some, if_pos rfl, s2, Option.bind_some, if_pos rfl]
        have hw : ((T.length : Int) != wrap64 ((M.length : Int) + 1)) = false := by
          rw [hlen, w64 M.length (by omega)]
          simp
        rw [hw, sizarlaw48_NetworkCuts.j1, if_neg (by decide)]
        by_cases h0 : (q.length : Int) = 0
        · rw [if_pos h0]
        · obtain ⟨u1, u2⟩ := umod w3 q.length (by omega) hq40
          obtain ⟨i, hi⟩ : ∃ i, at_.toNat % q.length = i := ⟨_, rfl⟩
          have hlt : i < q.length := by rw [← hi]; exact Nat.mod_lt _ (by omega)
          rw [hi] at u2
          obtain ⟨p, hp⟩ : ∃ p, q[i] = p := ⟨_, rfl⟩
          have hpk : pok p = true := hp ▸ pok_at hn (List.getElem_mem hlt)
          rw [if_neg h0, u1, u2, if_neg h0, deliver_ q T i (by omega) nT hlt, Option.bind_some, deliver_ q M i (by omega) nM hlt, Option.bind_some, hp]
          simp only []
          rw [btw (fun e => sizarlaw48_NetworkCuts.j2 298 0 0 e (got T p).f0 (got T p).f1 (got T p).f2 (got M p).f0 (got M p).f1 (got M p).f2), show (298 : Nat) = 297 + 1 from rfl, sizarlaw48_NetworkCuts.j2, if_pos rfl, if_pos rfl]
          have hpv : 0 ≤ p.f0 ∧ p.f0 < 7 ∧ 0 ≤ p.f1 ∧ p.f1 < 7 ∧ p.f0 ≠ p.f1 := by
            unfold pok at hpk
            have := of_decide_eq_true hpk
            exact ⟨this.1, this.2.1, this.2.2.1, this.2.2.2.1, this.2.2.2.2.1⟩
          have hpm := all_mem hpv
          have cT : cut T p.f0 p.f1 = keepL l c true ⟨mn p.f0 p.f1, mx p.f0 p.f1⟩ := by
            rw [← hT]
            exact cont_filter (keepL l c true) hpm
          have cM : cut M p.f0 p.f1 = keepL l c false ⟨mn p.f0 p.f1, mx p.f0 p.f1⟩ := by
            rw [← hM]
            exact cont_filter (keepL l c false) hpm
          unfold keepL at cT cM
          rw [← hc] at cT cM
          simp only [] at cT cM
          have sz : sizarref48_SamePacket.f zp.f0 zp.f1 zp.f2 0 0 [] = some true := same_packet zp
          by_cases he : (mn p.f0 p.f1 == mn a b && mx p.f0 p.f1 == mx a b) = true
          · rw [if_pos he] at cT cM
            have g1 : got T p = zp := by unfold got; rw [if_pos cT]
            have g2 : got M p = p := by unfold got; rw [if_neg (by rw [cM]; decide)]
            rw [Bool.and_eq_true, beq_iff_eq, beq_iff_eq] at he
            have hb : ((p.f0 == a && p.f1 == b) || (p.f0 == b && p.f1 == a)) = true := by
              rcases ends he.1 he.2 with ⟨x1, x2⟩ | ⟨x1, x2⟩ <;> simp [x1, x2]
            rw [g1, g2, sz, Option.bind_some, if_pos hb]
            rfl
          · rw [if_neg he] at cT cM
            have g : got T p = got M p := by unfold got; rw [cT, cM]
            have hb : ¬ (((got M p).f0 == a && (got M p).f1 == b) || ((got M p).f0 == b && (got M p).f1 == a)) = true := by
              intro hx
              unfold got at hx
              rw [Bool.or_eq_true, Bool.and_eq_true, Bool.and_eq_true, beq_iff_eq, beq_iff_eq, beq_iff_eq, beq_iff_eq] at hx
              split at hx
              · have := hv.2.2.2.2
                simp only [zp] at hx
                rcases hx with ⟨x1, x2⟩ | ⟨x1, x2⟩ <;> omega
              · refine he ?_
                rcases hx with ⟨x1, x2⟩ | ⟨x1, x2⟩
                · rw [x1, x2]; simp
                · rw [x1, x2, mn_comm b a, mx_comm b a]; simp
            obtain ⟨t, ht⟩ := same_some (got M p) zp
            have ht' : sizarref48_SamePacket.f (got M p).f0 (got M p).f1 (got M p).f2 0 0 [] = some t := ht
            rw [g, ht', Option.bind_some, if_neg hb, Option.bind_some, if_pos (by simp), same_packet, Option.bind_some]
      · have e1 : ct q l a b true = ([], [], 1) := by unfold ct; rw [if_pos hn, if_neg hv]
        rw [e1]
        rfl
    · rw [if_neg hn]; exact hj q l
  · rw [if_neg (by rw [decide_eq_false h]; decide)]; exact hj q l
end Go.Proofs.Ytccmjndldffclaa.X
-- The row of the law NetworkCuts, out of its pure proof and its walk (written by wip/mkrow.py).
namespace Go.Proofs.Ytccmjndldffclaa.networkCuts
open Go.ChangeShapes Go.WideShapes Go.ChangeAt Go.RowKit Go.Proofs.YtccmjndldffclaaW.PrintWords Go.Proofs.YtccmjndldffclaaW.Opn Go.Proofs.Ytccmjndldffclaa.X
open Go.ChangeMaps (open_string shut_string)
set_option linter.unusedVariables false
theorem own : ownKnob Try.prog.godebug = none := by kernel_rfl
theorem laidOut : laidOutB Try.prog = true := by kernel_rfl
set_option maxRecDepth 100000 in
theorem lifted (os : Os) (started : os.Started) (H : Type) (enc : TypeId × Value → H) :
    ReturnsInHanded {} Try.checked os 5 .any (Rows.networkCutsSpec.pre6 enc Try.prog Try.f5 Rows.networkCutsRow.domain false) (Rows.networkCutsSpec.post enc Try.prog Try.f5 false true false false) := by
  refine returnsInHanded_of_change_sized (C := Try.checked) own started (by kernel_rfl) Try.func5
    (ChangeSpec.witness6 (enc := enc) (C := Try.checked) false ⟨#[], #[.agg #[.slice none 0 0,.slice none 0 0], .int .i64 0, .int .i64 0, .int .u64 0], []⟩ 8 (by kernel_rfl) (by kernel_rfl) (by kernel_rfl) (by kernel_rfl)) ?_
  intro W base args ds gs before hval0 hW hcnd hsz0 _
  have hval : ∀ (j : Nat) t v, Try.f5.params[j]? = some t → args[j]? = some v → Value.okWide Try.prog W .any base t v := hval0
  have hW' := hW
  obtain ⟨p, q, hA0, hV, rfl, hfz, hnd⟩ := hW
  have hA : DataW.TrodAll enc Try.prog W 0 (fun _ => true) true Try.f5.params.toList args.toList ds p := hA0
  rw [Try.params5] at hA hval
  obtain ⟨v0, vs0, d0, ds0, p0, q0, hargs, rfl, rfl, h0, r0⟩ := trodAll_cons hA
  obtain ⟨v1, vs1, d1, ds1, p1, q1, rfl, rfl, rfl, h1, r1⟩ := trodAll_cons r0
  obtain ⟨v2, vs2, d2, ds2, p2, q2, rfl, rfl, rfl, h2, r2⟩ := trodAll_cons r1
  obtain ⟨v3, vs3, d3, ds3, p3, q3, rfl, rfl, rfl, h3, r3⟩ := trodAll_cons r2
  obtain ⟨rfl, rfl, rfl⟩ := trodAll_nil r3
  obtain rfl : args = #[v0, v1, v2, v3] := by cases args; simp_all
  obtain ⟨rfl, rfl⟩ := trodVars_none hV
  have k0 := h0
  have lt0 : ∀ x ∈ p0, x.block < W.heap.size := by obtain ⟨m, hm⟩ := k0; exact DataW.trod_lt m _ _ _ hm
  obtain ⟨y0, cs0, rfl, hk0, ho0⟩ := Opens.arg_struct op25 Try.underlying25 (hval 0 25 v0 rfl rfl) h0
  obtain ⟨An0, cn0, Am0, cm0, rfl, lq0, gq0, ll0, gl0⟩ := kN_open hk0
  have k1 := h1
  have lt1 : ∀ x ∈ p1, x.block < W.heap.size := by obtain ⟨m, hm⟩ := k1; exact DataW.trod_lt m _ _ _ hm
  obtain ⟨a1, rfl, rfl, rfl, w1⟩ := open_int Try.underlying3 (hval 1 3 v1 rfl rfl) h1
  have k2 := h2
  have lt2 : ∀ x ∈ p2, x.block < W.heap.size := by obtain ⟨m, hm⟩ := k2; exact DataW.trod_lt m _ _ _ hm
  obtain ⟨a2, rfl, rfl, rfl, w2⟩ := open_int Try.underlying3 (hval 2 3 v2 rfl rfl) h2
  have k3 := h3
  have lt3 : ∀ x ∈ p3, x.block < W.heap.size := by obtain ⟨m, hm⟩ := k3; exact DataW.trod_lt m _ _ _ hm
  obtain ⟨a3, rfl, rfl, rfl, w3⟩ := open_int Try.underlying42 (hval 3 42 v3 rfl rfl) h3
  clear hA0 hval0 hsz0
  obtain ⟨k, hk_⟩ := Pu.NetworkCuts y0 a1 w1 a2 w2 a3 w3
  refine (sizarlaw48_NetworkCuts.calls k An0 cn0 y0.q Am0 cm0 y0.l a1 a2 a3 true W gq0 lq0 gl0 ll0 hk_).mono fun e W' ⟨he, bel0⟩ => ?_
  have bel : Below W.heap.size W W' := bel0
  subst he
  exact ⟨_, rfl, _, _, _, [], _, [], hW', trodAll_mk1 (shut_bool Try.underlying4 _), (trodAll_cons_mk (Below.trod laidOut (by kernel_rfl) (of_decide_eq_true (by kernel_rfl)) k0 bel lt0) (trodAll_cons_mk (Below.trod laidOut (by kernel_rfl) (of_decide_eq_true (by kernel_rfl)) k1 bel lt1) (trodAll_cons_mk (Below.trod laidOut (by kernel_rfl) (of_decide_eq_true (by kernel_rfl)) k2 bel lt2) (trodAll_cons_mk (Below.trod laidOut (by kernel_rfl) (of_decide_eq_true (by kernel_rfl)) k3 bel lt3) trodAll_mk0)))), rfl, bel.frame _, fun h => by cases h⟩
theorem over : Rows.networkCutsRow.holds Try.pinned (OpenSpec.ofChange Rows.networkCutsSpec) :=
  OpenClaim.holds_of_wide 5 Try.f5 rfl rfl rfl rfl rfl rfl rfl ⟨rfl, rfl, rfl, rfl, rfl⟩ rfl rfl rfl rfl rfl (by kernel_rfl) Try.func5 (by kernel_rfl)
    (of_decide_eq_true (by kernel_rfl)) (by unfold Func.isWrapper; first | (rw [if_pos (by decide +kernel)]; kernel_rfl) | (rw [if_neg (by decide +kernel)]; exact ⟨rfl, rfl⟩))
    (fun os started H enc _ => lifted os started H enc)
end Go.Proofs.Ytccmjndldffclaa.networkCuts
namespace Go.Proofs.Ytccmjndldffclaa
/-- The row, under a short name, for the claim. -/
theorem networkCuts_holds : Rows.NetworkCutsSaid := networkCuts.over
#print axioms networkCuts_holds
end Go.Proofs.Ytccmjndldffclaa
