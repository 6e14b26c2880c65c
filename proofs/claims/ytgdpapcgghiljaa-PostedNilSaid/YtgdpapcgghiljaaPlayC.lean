/- Contracts of the program's queue: Ahead. -/
import Derived.Test.YtgdpapcgghiljaaPlayB
set_option linter.unusedSimpArgs false
set_option linter.unusedVariables false
namespace Go.Proofs.Ytgdpapcgghiljaa
open Go.RowKit

theorem Row.cap {w : World} {A : Option Addr} {n c : Nat} {ms : List Msg} (h : Row w (.slice A n c) ms) : n ≤ c := by
  rcases h.2 with ⟨h1, _⟩ | ⟨g, cap, cur, h1, _, _, hc, _⟩
  · cases h1; omega
  · cases h1; exact hc

def openB (m : Msg) : Bool := !m.taken

/-- What is ahead of a message in its channel's row is what is ahead of it in all. -/
theorem ahead_ofChan {ms : List Msg} (hn : (ms.map (·.sent)).Nodup) {m : Msg} {i k : Nat} (hi : ms[i]? = some m) (hk : (ofChan ms m.chan)[k]? = some m) : ((ofChan ms m.chan).take k).filter openB = (ms.take i).filter (fun x => isB x m.chan) := by
  obtain ⟨hil, hie⟩ := List.getElem?_eq_some_iff.1 hi
  have e1 : ms = ms.take i ++ m :: ms.drop (i + 1) := by
    conv => lhs; rw [← List.take_append_drop i ms]
    rw [List.drop_eq_getElem_cons hil, hie]
  have e2 : ofChan ms m.chan = ofChan (ms.take i) m.chan ++ m :: ofChan (ms.drop (i + 1)) m.chan := by
    conv => lhs; rw [e1]
    simp [ofChan]
  have hn2 : ((ofChan ms m.chan).map (·.sent)).Nodup := (List.filter_sublist.map _).nodup hn
  have hkk : (ofChan (ms.take i) m.chan).length = k := by
    have h1 : (ofChan ms m.chan)[(ofChan (ms.take i) m.chan).length]? = some m := by
      rw [e2, List.getElem?_append_right (Nat.le_refl _)]
      simp
    obtain ⟨a1, b1⟩ := List.getElem?_eq_some_iff.1 h1
    obtain ⟨a2, b2⟩ := List.getElem?_eq_some_iff.1 hk
    have hp := List.pairwise_iff_getElem.1 hn2
    rcases Nat.lt_trichotomy (ofChan (ms.take i) m.chan).length k with h | h | h
    · have := hp _ _ (by simpa using a1) (by simpa using a2) h
      simp only [List.getElem_map] at this
      rw [b1, b2] at this
      exact absurd rfl this
    · exact h
    · have := hp _ _ (by simpa using a2) (by simpa using a1) h
      simp only [List.getElem_map] at this
      rw [b1, b2] at this
      exact absurd rfl this
  rw [e2, ← hkk, List.take_left]
  unfold ofChan
  rw [List.filter_filter]
  congr 1

set_option maxRecDepth 100000 in
set_option maxHeartbeats 1000000 in
theorem pahead_none (q r a : Nat) (rs : List (Chan × Value)) (ats : List (Sent × Value)) (ms : List Msg) (m : Msg) (w : World) (h : QR w q r a rs ats ms) (hno : ∀ x ∈ ms, x.sent ≠ m.sent) :
    Calls Try.prog 27 #[.pointer (some ⟨q, 0, none⟩), .agg m.cs] w fun e w' => e = .returned (.slice none 0 0) ∧ Chg Non w w' := by
  have hpl := fun W hc => find_no q r a rs ats ms m.frm m.call W (h.non hc) hno
  have HPL := Lib.hid hpl
  clear hpl h hno
  go_enter Try.func27, Try.ntmps27
  go_wp2_with fail
  refine (HPL.out _ ((Chg.refl Non w).alloc _)).mono ?_
  rintro e w1 ⟨rfl, hc1⟩
  have HC := Lib.hid (((Chg.refl Non w).alloc _).non hc1)
  clear hc1
  go_wp2
  go_loop [5, 24] (fun o i => o = .slice none 0 0 ∧ i = .int .i64 0) (fun _ i => 0)
  case atStart => exact ⟨rfl, rfl⟩
  case round =>
    obtain ⟨rfl, rfl⟩ := hrel
    go_wp2
    go_ret
    exact ⟨rfl, HC.out⟩

set_option maxRecDepth 100000 in
set_option maxHeartbeats 1000000 in
theorem pahead_some (q r a : Nat) (rs : List (Chan × Value)) (ats : List (Sent × Value)) (ms : List Msg) (m m0 : Msg) (i0 : Nat) (w : World) (h : QR w q r a rs ats ms) (hm0 : ms[i0]? = some m0) (he : m0.sent = m.sent) (hl : ms.length ≤ 1000) :
    Calls Try.prog 27 #[.pointer (some ⟨q, 0, none⟩), .agg m.cs] w fun e w' => ∃ v', e = .returned v' ∧ Row w' v' ((ms.take i0).filter (fun x => isB x m0.chan)) ∧ Fresh w v' ∧ Chg Non w w' := by
  have hm := List.mem_of_getElem? hm0
  obtain ⟨v, hv⟩ := h.chans m0 hm
  obtain ⟨k, hk, hmk⟩ := idx_ofChan h.nodup hm
  rw [← ahead_ofChan h.nodup hm0 hmk]
  have hrow : Row w v (ofChan ms m0.chan) := h.row _ hv
  obtain ⟨A, cp, rfl, hr, _⟩ := hrow.form
  have hcap := hrow.cap
  have hpl := fun W hc => find_yes q r a rs ats ms m0 _ W (h.non hc) hm hv hl
  have e1 : m0.frm = m.frm := by have := he; simp [Msg.sent] at this; exact this.1
  have e2 : m0.call = m.call := by have := he; simp [Msg.sent] at this; exact this.2
  rw [hk, e1, e2] at hpl
  have HPL := Lib.hid hpl
  have hkl : k < (ofChan ms m0.chan).length := (List.getElem?_eq_some_iff.1 hmk).1
  have hlen : (ofChan ms m0.chan).length ≤ 1000 := Nat.le_trans (List.length_filter_le _ _) hl
  clear hpl h hm hv hrow hk hmk he e1 e2 hm0 hl
  generalize ofChan ms m0.chan = l at hr HPL hkl hlen hcap ⊢
  go_enter Try.func27, Try.ntmps27
  go_wp2_with fail
  refine (HPL.out _ ((Chg.refl Non w).alloc _)).mono ?_
  rintro e w1 ⟨rfl, hc1⟩
  have HC := Lib.hid (((Chg.refl Non w).alloc _).non hc1)
  clear hc1
  go_wp2
  go_loopw [5, 24] (fun out i wr => ∃ j : Nat, i = .int .i64 j ∧ j ≤ k ∧ Row wr out ((l.take j).filter openB) ∧ Fresh w out ∧ Chg Non w wr) (fun _ i _ => k - (intOf i).toNat)
  case atStart => exact ⟨0, rfl, by omega, by simpa using Row.nil w1, Fresh.nil w, HC.out⟩
  case round =>
    obtain ⟨j, rfl, hj, hrow, hfr, hc⟩ := hrel
    have HR := Lib.hid hrow
    have HF := Lib.hid hfr
    have HC1 := Lib.hid hc
    clear hrow hfr
    by_cases hlt : j < k
    · obtain ⟨x, hx1⟩ : ∃ x, l[j]? = some x := ⟨l[j]'(by omega), List.getElem?_eq_getElem _⟩
      obtain ⟨g, o, rfl, hg, e1, e2⟩ := (hr.non HC1.out).at_ hx1
      have HX := Lib.hid hx1
      have H1 := Lib.hid ((Chg.refl Non wr).alloc (Obj.cells x.cs 31))
      clear hx1 hc
      cases ht : (!x.taken)
      · have HT := Lib.hid ht
        go_wp2
        go_roundw
        case rel => exact ⟨j + 1, by go_num, by omega, by rw [take_snoc_filter _ l j x HX.out, show openB x = false from HT.out]; simp only [Bool.false_eq_true, if_false, List.append_nil]; exact HR.out.kept H1.out (fun _ _ e => e), HF.out, HC1.out.non H1.out⟩
        case measure => simp [intOf]; omega
      · have HT := Lib.hid ht
        have hl3 : ((l.take j).filter openB).length ≤ 1000000 := by
          have h1 := List.length_filter_le openB (l.take j)
          have h2 := List.length_take_le j l
          omega
        have hrow1 : ∀ o, Row ((wr.alloc (Obj.cells x.cs 31)).alloc o) u5 ((l.take j).filter openB) := fun o => HR.out.kept (H1.out.non ((Chg.refl _ _).alloc o)) (fun _ _ e => e)
        have HR1 := Lib.hid hrow1
        clear hrow1
        go_wp2_with ((at_builtin; refine wpList_appendM rfl _ _ rfl u5 ((l.take j).filter openB) rfl (HR1.out _) (wr.heap.size + 1) x 1 rfl _ (heap_alloc2_new _ _ _) rfl hl3 ?_; intro gg cc w2 q1 q2 q3 q4))
        have hgt := gathered (n := ((l.take j).filter openB).length + 1) (c := cc) HF.out HC1.out (H1.out.non ((Chg.refl _ _).alloc _)) q2 q3
        go_roundw
        case rel => exact ⟨j + 1, by go_num, by omega, by rw [take_snoc_filter _ l j x HX.out, show openB x = true from HT.out]; exact q1, hgt.1, hgt.2⟩
        case measure => simp [intOf]; omega
    · obtain rfl : j = k := by omega
      clear hc
      go_wp2
      go_ret
      exact ⟨u5, rfl, HR.out, HF.out, HC1.out⟩
end Go.Proofs.Ytgdpapcgghiljaa
