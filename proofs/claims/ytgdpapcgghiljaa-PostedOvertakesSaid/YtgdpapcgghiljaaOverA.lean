/- Plain laws for PostedOvertakes: of messages of one channel that all fit all receives, the k-th that was sent is the k-th's that was posted. -/
import Derived.Test.YtgdpapcgghiljaaWas
set_option linter.unusedSimpArgs false
set_option linter.unusedVariables false
namespace Go.Proofs.Ytgdpapcgghiljaa
open Go.RowKit

/-- s messages were sent, dn of them are taken. -/
def msgO (dn k : Nat) : Msg := if k < dn then (mg k 5).take else mg k 5
def msgsO (s dn : Nat) : List Msg := (List.range s).map (msgO dn)
/-- Receives of these peers were posted, dn of them are done. -/
def rcvO (pe : List Int) (dn k : Nat) : Rcv := if k < dn then (rc k (pe.getD k 0) (-1)).got 1 k else rc k (pe.getD k 0) (-1)
def rcvsO (pe : List Int) (dn : Nat) : List Rcv := (List.range pe.length).map (rcvO pe dn)
def LO (pe : List Int) (dn : Nat) : Nat → List Rcv := fun j => if j = 0 then rcvsO pe dn else []

theorem msgO_call (dn k : Nat) : (msgO dn k).frm = 1 ∧ (msgO dn k).call = k ∧ (msgO dn k).dst = 0 ∧ (msgO dn k).key = ⟨#[]⟩ ∧ (msgO dn k).taken = decide (k < dn) := by
  unfold msgO; split <;> rename_i h <;> simp [mg, Msg.take, h]
theorem rcvO_is (pe : List Int) (dn k : Nat) : (rcvO pe dn k).rank = 0 ∧ (rcvO pe dn k).call = k ∧ (rcvO pe dn k).peer = pe.getD k 0 ∧ (rcvO pe dn k).tag = -1 ∧ (rcvO pe dn k).key = ⟨#[]⟩ ∧ (rcvO pe dn k).done = decide (k < dn) := by
  unfold rcvO; split <;> rename_i h <;> simp [rc, Rcv.got, h]

theorem msgsO_get {s dn k : Nat} (h : k < s) : (msgsO s dn)[k]? = some (msgO dn k) := by simp [msgsO, h]
theorem rcvsO_get {pe : List Int} {dn k : Nat} (h : k < pe.length) : (rcvsO pe dn)[k]? = some (rcvO pe dn k) := by simp [rcvsO, h]
theorem ofO (pe : List Int) (dn : Nat) : ofL (LO pe dn) 0 = rcvsO pe dn := by unfold ofL LO; simp

theorem sendO {s dn : Nat} (h : dn ≤ s) : sndC (msgsO s dn) (mg s 5) = 0 ∧ sndL (msgsO s dn) (mg s 5) = msgsO (s + 1) dn := by
  have hok : Ok (msgsO s dn) (mg s 5) := by
    refine ⟨⟨by simp [mg], by simp [mg], by simp [mg], by simp [mg], by show (0 : Int) ≤ s; omega, by simp [mg], by simp [mg], by simp [mg], by simp [mg], rfl⟩, plc_neg.2 fun m hm e => ?_⟩
    obtain ⟨k, hk, rfl⟩ := List.mem_map.1 hm
    have h1 := List.mem_range.1 hk
    have h2 : (msgO dn k).call = (s : Int) := congrArg Sent.call e
    rw [(msgO_call dn k).2.1] at h2
    omega
  unfold sndC sndL
  rw [if_pos hok, if_pos hok]
  refine ⟨rfl, ?_⟩
  unfold msgsO
  rw [List.range_succ, List.map_append]
  simp only [List.map_cons, List.map_nil, msgO]
  rw [if_neg (by omega)]

theorem upd_LO (pe pe' : List Int) (dn dn' : Nat) (l : List Rcv) (h : l = rcvsO pe' dn') : upd (LO pe dn) 0 l = LO pe' dn' := by
  subst h
  funext j
  unfold upd LO
  by_cases hj : j = 0
  · subst hj; simp
  · rw [if_neg hj, if_neg hj, if_neg hj]

theorem postO {pe : List Int} {dn : Nat} (h : dn ≤ pe.length) {p : Int} (hp : p = -1 ∨ p = 1) : postC (LO pe dn) (rc pe.length p (-1)) = 0 ∧ postL (LO pe dn) (rc pe.length p (-1)) = LO (pe ++ [p]) dn := by
  have hok : PostOk (LO pe dn) (rc pe.length p (-1)) := by
    refine ⟨by simp [rc], by rcases hp with rfl | rfl <;> simp [rc], by simp [rc], by simp [rc], by show (0 : Int) ≤ pe.length; omega, fun y hy => ?_⟩
    rw [show (rc pe.length p (-1)).rank = 0 from rfl, ofO] at hy
    have hm := List.mem_of_getLast? hy
    obtain ⟨k, hk, rfl⟩ := List.mem_map.1 hm
    have h1 := List.mem_range.1 hk
    rw [(rcvO_is pe dn k).2.1]
    show (k : Int) < pe.length
    omega
  unfold postC postL
  rw [if_pos hok, if_pos hok]
  refine ⟨rfl, upd_LO _ _ _ _ _ ?_⟩
  show rcvsO pe dn ++ [_] = _
  apply List.ext_getElem?
  intro k
  by_cases hk : k < pe.length
  · rw [List.getElem?_append_left (by simp [rcvsO, hk]), rcvsO_get hk, rcvsO_get (by simp; omega)]
    unfold rcvO
    have : (pe ++ [p]).getD k 0 = pe.getD k 0 := by simp [List.getD, List.getElem?_append_left hk]
    rw [this]
  · by_cases hk2 : k = pe.length
    · subst hk2
      rw [List.getElem?_append_right (by simp [rcvsO]), rcvsO_get (by simp)]
      unfold rcvO
      rw [if_neg (by omega)]
      simp [rcvsO, rc, Rcv.fresh, List.getD]
    · rw [List.getElem?_eq_none (by simp [rcvsO]; omega), List.getElem?_eq_none (by simp [rcvsO]; omega)]

theorem findO {s dn : Nat} {f : Int} : (msgsO s dn).find? (fstB ⟨⟨#[]⟩, f, 0⟩ (-1)) = if f = 1 ∧ dn < s then some (mg dn 5) else none := by
  by_cases h : f = 1 ∧ dn < s
  · obtain ⟨rfl, h⟩ := h
    rw [if_pos ⟨rfl, h⟩, List.find?_eq_some_iff_getElem]
    refine ⟨by simp [fstB, isB, mg, Msg.chan], dn, by simp [msgsO]; exact h, ?_, fun j hj => ?_⟩
    · simp [msgsO, msgO]
    · have hjs : j < (msgsO s dn).length := by simp [msgsO]; omega
      have : (msgsO s dn)[j] = msgO dn j := by simp [msgsO]
      rw [this]
      have ht := (msgO_call dn j).2.2.2.2
      simp [fstB, isB, ht, hj]
  · rw [if_neg h, List.find?_eq_none]
    intro m hm
    obtain ⟨k, hk, rfl⟩ := List.mem_map.1 hm
    have h1 := List.mem_range.1 hk
    obtain ⟨a1, a2, a3, a4, a5⟩ := msgO_call dn k
    simp only [fstB, isB, Msg.chan, a1, a3, a4, a5, Bool.and_eq_true, not_and, decide_eq_true_eq, Chan.mk.injEq]
    intro ⟨hkd, he⟩
    simp at hkd
    exact absurd ⟨he.2.1.symm, by omega⟩ h

theorem one_list {l : List Msg} {a : Msg} (h : l.Pairwise (fun a b => a.frm < b.frm)) (hm : ∀ m, m ∈ l ↔ m = a) : l = [a] := by
  match l, h, hm with
  | [], _, hm => exact absurd ((hm a).2 rfl) (by simp)
  | [x], _, hm => rw [(hm x).1 (by simp)]
  | x :: y :: l, h, hm =>
    have h1 := (hm x).1 (by simp)
    have h2 := (hm y).1 (by simp)
    rw [List.pairwise_cons] at h
    have := h.1 y (by simp)
    rw [h1, h2] at this
    omega

theorem mayO {n s dn : Nat} {pe : List Int} (hw : WF n (msgsO s dn) (LO pe dn)) (hpe : ∀ p ∈ pe, p = -1 ∨ p = 1) {k : Nat} (hk : k < pe.length) (hd : k < dn ∨ dn = min k s) :
    mayL (msgsO s dn) (LO pe dn) 0 k = if ¬ k < dn ∧ k < s then [mg k 5] else [] := by
  have hx : (ofL (LO pe dn) 0)[k]? = some (rcvO pe dn k) := by rw [ofO]; exact rcvsO_get hk
  obtain ⟨b1, b2, b3, b4, b5, b6⟩ := rcvO_is pe dn k
  have hiff := fun m => @may_iff _ _ _ hw 0 k _ hx m
  rw [b2] at hiff
  have hpk : pe.getD k 0 = -1 ∨ pe.getD k 0 = 1 := hpe _ (by simp [List.getD, List.getElem?_eq_getElem hk])
  have hrise := may_rise (msgsO s dn) (LO pe dn) 0 k
  by_cases hc : ¬ k < dn ∧ k < s
  · rw [if_pos hc]
    have hdk : dn = k := by omega
    refine one_list hrise fun m => ?_
    rw [hiff m, b1, b3, b4, b5, b6, findO]
    constructor
    · rintro ⟨_, _, h3, _⟩
      split at h3
      · cases h3; rw [hdk]
      · cases h3
    · rintro rfl
      refine ⟨by simp; omega, ?_, ?_, ?_⟩
      · exact hpk
      · rw [if_pos ⟨rfl, by omega⟩, hdk]
      · intro y hy hyd
        rw [ofO] at hy
        obtain ⟨j, hj, rfl⟩ := List.mem_take_iff_getElem.1 hy
        have : (rcvsO pe dn)[j]'(by omega) = rcvO pe dn j := by simp [rcvsO]
        rw [this, (rcvO_is pe dn j).2.2.2.2.2] at hyd
        simp at hyd
        omega
  · rw [if_neg hc, List.eq_nil_iff_forall_not_mem]
    intro m hm
    rw [hiff m, b1, b4, b5, b6, findO] at hm
    obtain ⟨h1, _, h3, _⟩ := hm
    simp at h1
    split at h3
    · omega
    · cases h3

theorem matchO {n s : Nat} {pe : List Int} {k : Nat} (hw : WF n (msgsO s k) (LO pe k)) (hpe : ∀ p ∈ pe, p = -1 ∨ p = 1) (hk : k < pe.length) (hs : k < s) :
    matchB (msgsO s k) (LO pe k) 0 k 1 k = true ∧ matchM (msgsO s k) (LO pe k) 0 k 1 k = msgsO s (k + 1) ∧ matchR (msgsO s k) (LO pe k) 0 k 1 k = LO pe (k + 1) := by
  have hb : matchB (msgsO s k) (LO pe k) 0 k 1 k = true := by
    unfold matchB
    rw [mayO hw hpe hk (.inr (by omega)), if_pos ⟨by omega, hs⟩]
    simp [itsB, mg]
  refine ⟨hb, ?_, ?_⟩
  · unfold matchM
    rw [if_pos hb]
    unfold tk msgsO
    rw [List.map_map]
    refine List.map_congr_left fun j hj => ?_
    obtain ⟨a1, a2, a3, a4, a5⟩ := msgO_call k j
    simp only [Function.comp, tkf, Msg.sent, a1, a2, Sent.mk.injEq, true_and]
    by_cases hjk : j = k
    · subst hjk
      rw [if_pos rfl]
      unfold msgO
      rw [if_neg (by omega), if_pos (by omega)]
    · rw [if_neg (by omega)]
      unfold msgO
      by_cases hlt : j < k
      · rw [if_pos hlt, if_pos (by omega)]
      · rw [if_neg hlt, if_neg (by omega)]
  · unfold matchR
    rw [if_pos hb]
    refine upd_LO _ _ _ _ _ ?_
    show gotL (rcvsO pe k) k 1 k = _
    have hx : (ofL (LO pe k) 0)[k]? = some (rcvO pe k k) := by rw [ofO]; exact rcvsO_get hk
    have hf := find_call (calls_of hw 0) hx
    rw [(rcvO_is pe k k).2.1, ofO] at hf
    rw [gotL_at hf (rcvsO_get hk)]
    apply List.ext_getElem?
    intro j
    by_cases hjk : k = j
    · subst hjk
      rw [List.getElem?_set_self (by simp [rcvsO]; exact hk), rcvsO_get hk]
      unfold rcvO
      rw [if_neg (by omega), if_pos (by omega)]
    · rw [List.getElem?_set_ne hjk]
      by_cases hj : j < pe.length
      · rw [rcvsO_get hj, rcvsO_get hj]
        unfold rcvO
        by_cases hlt : j < k
        · rw [if_pos hlt, if_pos (by omega)]
        · rw [if_neg hlt, if_neg (by omega)]
      · rw [List.getElem?_eq_none (by simp [rcvsO]; omega), List.getElem?_eq_none (by simp [rcvsO]; omega)]

/-! ### contracts in one form -/
section
variable {k : Nat} {w0 w : World} {q p : Nat} {S : Nat → Prop} {ms : List Msg} {L : Nat → List Rcv}
theorem hsend (h : Has w0 w q p S ms L) (hw : WF k ms L) (hk : k ≤ 1000) (m : Msg) :
    Calls Try.prog 13 #[.pointer (some ⟨q, 0, none⟩), .agg m.cs] w fun e w' => e = .returned (.int .i64 (sndC ms m)) ∧ ∃ S', Has w0 w' q p S' (sndL ms m) L := by
  obtain ⟨r, a, rs, ats, vs, h, rfl⟩ := h
  refine (dsend h hw hk m).mono ?_
  rintro e w' ⟨rfl, rs', ats', h1⟩
  exact ⟨rfl, _, r, a, rs', ats', vs, h1, rfl⟩
theorem hpost (h : Has w0 w q p S ms L) (hw : WF k ms L) (hk : k ≤ 1000) (x : Rcv) :
    Calls Try.prog 36 #[.pointer (some ⟨p, 0, none⟩), .agg x.cs] w fun e w' => e = .returned (.int .i64 (postC L x)) ∧ ∃ S', Has w0 w' q p S' ms (postL L x) := by
  obtain ⟨r, a, rs, ats, vs, h, rfl⟩ := h
  refine (dpost h hw hk x).mono ?_
  rintro e w' ⟨rfl, vs', h1⟩
  exact ⟨rfl, _, r, a, rs, ats, vs', h1, rfl⟩
theorem hmatch_yes (h : Has w0 w q p S ms L) (hw : WF k ms L) (hk : k ≤ 1000) (rank call f s : Int) (hy : matchB ms L rank call f s = true) :
    Calls Try.prog 38 #[.pointer (some ⟨p, 0, none⟩), .pointer (some ⟨q, 0, none⟩), .int .i64 rank, .int .i64 call, .int .i64 f, .int .i64 s] w fun e w' => e = .returned (.int .i64 0) ∧ Has w0 w' q p S (matchM ms L rank call f s) (matchR ms L rank call f s) := by
  obtain ⟨r, a, rs, ats, vs, h, rfl⟩ := h
  refine (dmatch h hw hk rank call f s).mono ?_
  rintro e w' ⟨rfl, h1, h2⟩
  exact ⟨by rw [if_pos hy], r, a, rs, ats, vs, h1, rfl⟩
end
end Go.Proofs.Ytgdpapcgghiljaa
