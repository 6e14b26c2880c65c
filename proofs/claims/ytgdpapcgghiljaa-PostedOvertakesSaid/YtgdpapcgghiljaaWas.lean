/- A slice of rows of messages, and messages and receives in one form: words of the walk of PostedGrows. -/
import Derived.Test.YtgdpapcgghiljaaProbes
set_option linter.unusedSimpArgs false
set_option linter.unusedVariables false
namespace Go.Proofs.Ytgdpapcgghiljaa
open Go.RowKit

/-- A slice of the call's own that holds the slices us. -/
def RowV (w : World) (v : Value) (us : List Value) : Prop := w.ownsRow 0 27 1 v us.length us

theorem RowV.lt {w : World} {v : Value} {us : List Value} (h : RowV w v us) : ∀ k, v.ownBlock = some k → k < w.heap.size := fun k hk => (World.ownsRow.lt h k hk).2
theorem RowV.kept {w w' : World} {v : Value} {us : List Value} {S : Nat → Prop} (h : RowV w v us) (hc : Chg S w w') (hn : ∀ g, v.ownBlock = some g → ¬ S g) : RowV w' v us := by
  refine ⟨h.1, ?_⟩
  rcases h.2 with h0 | ⟨g, cap, cur, rfl, hb, hg, r⟩
  · exact .inl h0
  · exact .inr ⟨g, cap, cur, rfl, hb, (hc.block g (Array.getElem?_eq_some_iff.1 hg).1 (hn g rfl)).trans hg, r⟩

theorem Row.block {w : World} {v : Value} {ms : List Msg} (h : Row w v ms) {g : Nat} (hg : v.ownBlock = some g) : ∃ cur, w.heap[g]? = some (.cells cur 31 (0, 0)) := by
  rcases h.2 with ⟨rfl, _⟩ | ⟨g', cap, cur, rfl, _, hb, _⟩
  · cases hg
  · cases hg; exact ⟨cur, hb⟩

theorem info27 : (Try.prog.info? 27).map (fun i => (i.zero, i.size, i.bytes)) = some (some (.slice none 0 0), 1, 24) := by kernel_rfl

theorem wpList_appendV {w : World} {ops : Array Oper} {rest : List Oper} {o : Oper} {a : Act} {Q : Exit → Act → World → Prop} (hgd : o.guard = none) (s x : Operand)
    (ho : o.op = .call { callee := .builtin .append, args := #[s, x], argTypes := #[69, 69] }) (v : Value) (us : List Value) (hs : a.eval s = v) (hrow : RowV w v us)
    (B : Nat) (u : Value) (hu1 : u.oneCell' = true) (c : Nat) (hx : a.eval x = .slice (some ⟨B, 0, none⟩) 1 c) (hB : w.heap[B]? = some (.cells #[u] 27 (0, 0))) (hl : us.length ≤ 1000000)
    (h : ∀ g cap w', RowV w' (.slice (some ⟨g, 0, none⟩) (us.length + 1) cap) (us ++ [u]) → Chg (fun b => v.ownBlock = some b) w w' → (v.ownBlock = some g ∨ g = w.heap.size) → wpList Try.prog ops Q rest (a.put o.dst (.slice (some ⟨g, 0, none⟩) (us.length + 1) cap)) w') : wpList Try.prog ops Q (o :: rest) a w := by
  obtain ⟨i0, hi, hz0, hz1, hz2⟩ := info_parts info27
  refine wpList_append_lies w hgd s x 69 ho 0 27 i0 _ 1 24 Try.underlying69 hi hz0 hz1 hz2 rfl (by omega) v us.length us hs hrow ⟨B, 0, none⟩ 1 c [u] hx (by rfl) (World.news_of_block hB) (by simpa using hu1) (by omega)
    (by unfold maxLen; omega) (by omega) (Nat.zero_le _) _ rfl ?_
  intro g cap w' h1 h2 h3 h4
  refine h g cap w' ?_ ((Chg.refl _ _).grown h2 (fun k hk => .inr hk)) h3
  unfold RowV
  rw [List.length_append]
  exact h1

/-- ROWS OF MESSAGES, in blocks that are not of S. -/
structure Was (w0 w : World) (S : Nat → Prop) (v : Value) (V : List (List Msg)) : Prop where
  ex : ∃ us, RowV w v us ∧ us.length = V.length ∧ ∀ (i : Nat) (u : Value) (ms : List Msg), us[i]? = some u → V[i]? = some ms → Row w u ms ∧ (∀ g, u.ownBlock = some g → ¬ S g)
  free : ∀ g, v.ownBlock = some g → ¬ S g
  new : ∀ g, v.ownBlock = some g → w0.heap.size ≤ g

section
variable {w0 w w' : World} {S S' : Nat → Prop} {v : Value} {V : List (List Msg)}

theorem Was.nil : Was w0 w S (.slice none 0 0) [] := ⟨⟨[], World.ownsRow_nil w 0 27 1, rfl, by simp⟩, by simp [Value.ownBlock], by simp [Value.ownBlock]⟩

theorem Was.step (h : Was w0 w S v V) (c : Chg S w w') (hS : ∀ b, S' b → S b ∨ w.heap.size ≤ b) : Was w0 w' S' v V := by
  obtain ⟨us, h1, h2, h3⟩ := h.ex
  refine ⟨⟨us, h1.kept c h.free, h2, fun i u ms hu hm => ?_⟩, fun g hg e => ?_, h.new⟩
  · obtain ⟨r1, r2⟩ := h3 i u ms hu hm
    refine ⟨r1.kept c r2, fun g hg e => ?_⟩
    rcases hS g e with e | e
    · exact r2 g hg e
    · have := r1.lt g hg; omega
  · rcases hS g e with e | e
    · exact h.free g hg e
    · have := h1.lt g hg; omega

theorem Was.non (h : Was w0 w S v V) (c : Chg Non w w') : Was w0 w' S v V := h.step c.any (fun b e => .inl e)

theorem Was.form (h : Was w0 w S v V) : ∃ A c, v = .slice A V.length c := by
  obtain ⟨us, h1, h2, _⟩ := h.ex
  rcases h1.2 with ⟨rfl, hn⟩ | ⟨g, cap, cur, rfl, _⟩
  · exact ⟨none, 0, by rw [← h2, hn]⟩
  · exact ⟨_, _, by rw [h2]⟩

theorem Was.at_ (h : Was w0 w S v V) {i : Nat} {ms : List Msg} (hi : V[i]? = some ms) : ∃ g c A k, v = .slice (some ⟨g, 0, none⟩) V.length c ∧ g < w.heap.size ∧ w.cell? ⟨g, i, none⟩ = some (.slice A ms.length k) ∧ RdM w A ms := by
  obtain ⟨us, h1, h2, h3⟩ := h.ex
  have hiV := (List.getElem?_eq_some_iff.1 hi).1
  obtain ⟨u, hu⟩ : ∃ u, us[i]? = some u := ⟨us[i]'(by omega), List.getElem?_eq_getElem _⟩
  obtain ⟨r1, _⟩ := h3 i u ms hu hi
  obtain ⟨A, k, rfl, r2, _⟩ := r1.form
  rcases h1.2 with ⟨rfl, hn⟩ | ⟨g, cap, cur, rfl, _, hb, hc, hm, hsz, ht⟩
  · have := (List.getElem?_eq_some_iff.1 hu).1
    omega
  · refine ⟨g, cap, A, k, by rw [h2], (Array.getElem?_eq_some_iff.1 hb).1, ?_, r2⟩
    rw [← ht, List.getElem?_take, if_pos (by omega)] at hu
    rw [cell_of_row w g _ cur 27 (0, 0) hb]
    simpa using hu

/-- One of the rows is laid anew. -/
theorem Was.put {g c n i : Nat} (h : Was w0 w S (.slice (some ⟨g, 0, none⟩) n c) V) (hi : i < V.length) {u : Value} {ms : List Msg} (hu : Row w u ms) (hf : ∀ b, u.ownBlock = some b → ¬ S b) :
    Was w0 (w.setCell ⟨g, i, none⟩ u) S (.slice (some ⟨g, 0, none⟩) n c) (V.set i ms) ∧ w.frozen? ⟨g, i, none⟩ = false ∧ (∃ x, w.cell? ⟨g, i, none⟩ = some x) ∧ Chg (fun b => b = g) w (w.setCell ⟨g, i, none⟩ u) ∧ w0.heap.size ≤ g ∧ ¬ S g := by
  obtain ⟨us, h1, h2, h3⟩ := h.ex
  have hc : Chg (fun b => b = g) w (w.setCell ⟨g, i, none⟩ u) := Chg.setCell (S := fun b => b = g) (Chg.refl _ _) (.inr rfl) _
  rcases h1.2 with ⟨h4, _⟩ | ⟨g', cap, cur, h4, hb0, hb, hle, hm, hsz, ht⟩
  · cases h4
  · cases h4
    have hrow : ∀ (x : Value) (l : List Msg), Row w x l → ∀ b, x.ownBlock = some b → ¬ b = g := by
      rintro x l hx b hxb rfl
      obtain ⟨cur', hcur⟩ := hx.block hxb
      rw [hb] at hcur
      simp at hcur
    refine ⟨⟨⟨us.set i u, ?_, by simp [h2], fun j x l hx hl => ?_⟩, h.free, h.new⟩, frozen_of_row w g i cur 27 hb, ?_, hc, h.new g rfl, h.free g rfl⟩
    · unfold RowV
      refine ⟨by simp, .inr ⟨g, c, cur.setIfInBounds i u, by simp, hb0, heap_setCell_same w g i cur 27 _ hb, by simpa using hle, hm, by simpa using hsz, ?_⟩⟩
      rw [Array.toList_setIfInBounds, List.length_set, List.take_set, ht]
    · by_cases hij : i = j
      · subst hij
        rw [List.getElem?_set_self (by omega)] at hx hl
        cases hx; cases hl
        exact ⟨hu.kept hc (hrow u ms hu), hf⟩
      · rw [List.getElem?_set_ne hij] at hx hl
        obtain ⟨r1, r2⟩ := h3 j x l hx hl
        exact ⟨r1.kept hc (hrow x l r1), r2⟩
    · exact ⟨cur[i]'(by omega), by rw [cell_of_row w g i cur 27 (0, 0) hb]; exact Array.getElem?_eq_getElem _⟩

theorem wpList_appendWas {ops : Array Oper} {rest : List Oper} {o : Oper} {a : Act} {Q : Exit → Act → World → Prop} (hgd : o.guard = none) (s x : Operand)
    (ho : o.op = .call { callee := .builtin .append, args := #[s, x], argTypes := #[69, 69] }) (hs : a.eval s = v) (hwas : Was w0 w S v V)
    (B : Nat) (u : Value) (ms : List Msg) (c : Nat) (hx : a.eval x = .slice (some ⟨B, 0, none⟩) 1 c) (hB : w.heap[B]? = some (.cells #[u] 27 (0, 0))) (hu : Row w u ms) (hf : ∀ b, u.ownBlock = some b → ¬ S b)
    (hS : ∀ b, S b → b < w.heap.size) (h0 : w0.heap.size ≤ w.heap.size) (hl : V.length ≤ 1000000)
    (h : ∀ v' w', Was w0 w' S v' (V ++ [ms]) → Chg (fun b => v.ownBlock = some b) w w' → wpList Try.prog ops Q rest (a.put o.dst v') w') : wpList Try.prog ops Q (o :: rest) a w := by
  obtain ⟨us, h1, h2, h3⟩ := hwas.ex
  obtain ⟨A, k, hue, _, _⟩ := hu.form
  refine wpList_appendV hgd s x ho v us hs h1 B u (by rw [hue]; rfl) c hx hB (by omega) ?_
  intro g cap w' q1 q2 q3
  have hrow : ∀ (x : Value) (l : List Msg), Row w x l → ∀ b, x.ownBlock = some b → ¬ v.ownBlock = some b := by
    intro x l hx b hxb hvb
    obtain ⟨cur', hcur⟩ := hx.block hxb
    rcases h1.2 with ⟨h4, _⟩ | ⟨g', cap, cur, h4, hb0, hb, _⟩
    · rw [h4] at hvb; cases hvb
    · rw [h4] at hvb
      simp only [Value.ownBlock, Option.some.injEq] at hvb
      subst hvb
      rw [hb] at hcur
      simp at hcur
  refine h _ w' ⟨⟨us ++ [u], ?_, by simp [h2], fun i y l hy hl' => ?_⟩, fun b hb e => ?_, fun b hb => ?_⟩ q2
  · unfold RowV at q1 ⊢
    simpa using q1
  · by_cases hi : i < us.length
    · rw [List.getElem?_append_left hi] at hy
      rw [List.getElem?_append_left (by omega)] at hl'
      obtain ⟨r1, r2⟩ := h3 i y l hy hl'
      exact ⟨r1.kept q2 (hrow y l r1), r2⟩
    · rw [List.getElem?_append_right (by omega)] at hy
      rw [List.getElem?_append_right (by omega)] at hl'
      have e : i - us.length = 0 := by
        have := (List.getElem?_eq_some_iff.1 hy).1
        simp at this; omega
      have e' : i - V.length = 0 := by omega
      rw [e] at hy
      rw [e'] at hl'
      cases hy; cases hl'
      exact ⟨hu.kept q2 (hrow u ms hu), hf⟩
  · have e1 : g = b := by simpa [Value.ownBlock] using hb
    subst e1
    rcases q3 with q | q
    · exact hwas.free g q e
    · have := hS g e; omega
  · have e1 : g = b := by simpa [Value.ownBlock] using hb
    subst e1
    rcases q3 with q | q
    · exact hwas.new g q
    · omega
end

/-- MESSAGES AND RECEIVES at q and p, in the blocks S. -/
def Has (w0 w : World) (q p : Nat) (S : Nat → Prop) (ms : List Msg) (L : Nat → List Rcv) : Prop :=
  ∃ r a rs ats vs, Duo w0 w q r a rs ats p vs ms L ∧ S = fun b => In (blocksOf q r a rs) b ∨ In (blocksP p vs) b

section
variable {k : Nat} {w0 w w' : World} {q p : Nat} {S : Nat → Prop} {ms : List Msg} {L : Nat → List Rcv}

theorem Has.non (h : Has w0 w q p S ms L) (c : Chg Non w w') : Has w0 w' q p S ms L := by
  obtain ⟨r, a, rs, ats, vs, h, e⟩ := h
  exact ⟨r, a, rs, ats, vs, h.non c, e⟩
theorem Has.lt (h : Has w0 w q p S ms L) : ∀ b, S b → b < w.heap.size := by
  obtain ⟨r, a, rs, ats, vs, h, rfl⟩ := h
  rintro b (e | e)
  · exact h.qr.lt b e
  · exact h.pr.lt b e
theorem Has.new (h : Has w0 w q p S ms L) : ∀ b, S b → w0.heap.size ≤ b := by
  obtain ⟨r, a, rs, ats, vs, h, rfl⟩ := h
  rintro b (e | e)
  · exact h.newq b e
  · exact h.newp b e
theorem Has.chg (h : Has w0 w q p S ms L) : Chg Non w0 w := by
  obtain ⟨r, a, rs, ats, vs, h, rfl⟩ := h
  exact h.chg
theorem Has.aside {T : Nat → Prop} (h : Has w0 w q p S ms L) (c : Chg T w w') (hT : ∀ b, T b → ¬ S b ∧ w0.heap.size ≤ b) : Has w0 w' q p S ms L := by
  obtain ⟨r, a, rs, ats, vs, h, rfl⟩ := h
  exact ⟨r, a, rs, ats, vs, h.aside c (fun b hb => ⟨fun e => (hT b hb).1 (.inl e), fun e => (hT b hb).1 (.inr e), (hT b hb).2⟩), rfl⟩
theorem Has.fresh (h : Has w0 w q p S ms L) {v : Value} (hv : Fresh w v) : ∀ g, v.ownBlock = some g → ¬ S g := fun g hg e => by
  have := h.lt g e; have := hv g hg; omega

theorem hmay (h : Has w0 w q p S ms L) (hw : WF k ms L) (hk : k ≤ 1000) (rank call : Int) :
    Calls Try.prog 37 #[.pointer (some ⟨p, 0, none⟩), .pointer (some ⟨q, 0, none⟩), .int .i64 rank, .int .i64 call] w fun e w' => ∃ v', e = .returned v' ∧ Row w' v' (mayL ms L rank call) ∧ Fresh w v' ∧ Chg Non w w' := by
  obtain ⟨r, a, rs, ats, vs, h, rfl⟩ := h
  exact dmay h hw hk rank call

theorem hat (h : Has w0 w q p S ms L) (hw : WF k ms L) (hk : k ≤ 1000) (rank call : Int) (i : Nat) (x : Rcv) (hn : (ofL L rank).findIdx? (fun r => r.call == call) = some i) (hx : (ofL L rank)[i]? = some x) :
    Calls Try.prog 42 #[.pointer (some ⟨p, 0, none⟩), .int .i64 rank, .int .i64 call] w fun e w' => e = .returned (.tuple #[.agg x.cs, .bool true]) ∧ Chg Non w w' := by
  obtain ⟨r, a, rs, ats, vs, h, rfl⟩ := h
  exact pat_some p vs L rank call w i x h.pr (Nat.le_trans (hw.of _) hk) (by unfold plcR idxR; rw [hn]) hx

theorem hact (h : Has w0 w q p S ms L) (hw : WF k ms L) (hk : k ≤ 1000) (d : Deed2) :
    Calls Try.prog 41 #[.pointer (some ⟨q, 0, none⟩), .pointer (some ⟨p, 0, none⟩), .agg d.cs] w fun e w' => (∃ n : Int, e = .returned (.int .i64 n)) ∧ ∃ S', Has w0 w' q p S' (actM ms L d) (actR ms L d) ∧ Chg S w w' ∧ (∀ b, S' b → S b ∨ w.heap.size ≤ b) := by
  obtain ⟨r, a, rs, ats, vs, h, rfl⟩ := h
  by_cases h01 : d.kind.tmod 4 = 0 ∨ d.kind.tmod 4 = 1
  · refine (act_send q r a rs ats ms _ d w h.qr (Nat.le_trans hw.len hk) h01).mono ?_
    rintro e w' ⟨rfl, rs', ats', h1, h2, h3⟩
    refine ⟨⟨_, rfl⟩, _, ⟨r, a, rs', ats', vs, ?_, rfl⟩, h2.mono (fun b _ e => .inl e), fun b hb => ?_⟩
    · unfold actM actR
      rw [if_pos h01, if_pos h01]
      exact h.stepQ h1 h2 h3
    · rcases hb with hb | hb
      · rcases h3 b hb with e | e
        · exact .inl (.inl e)
        · exact .inr e
      · exact .inl (.inr hb)
  · by_cases h2 : d.kind.tmod 4 = 2
    · refine (act_post p vs L _ d w h.pr (Nat.le_trans (hw.of _) hk) h2).mono ?_
      rintro e w' ⟨rfl, vs', g1, g2, g3⟩
      refine ⟨⟨_, rfl⟩, _, ⟨r, a, rs, ats, vs', ?_, rfl⟩, g2.mono (fun b _ e => .inr e), fun b hb => ?_⟩
      · unfold actM actR
        rw [if_neg h01, if_neg h01, if_pos h2, if_pos h2]
        exact h.stepP g1 g2 g3
      · rcases hb with hb | hb
        · exact .inl (.inl hb)
        · rcases g3 b hb with e | e
          · exact .inl (.inr e)
          · exact .inr e
    · refine (act_match q r a rs ats ms p vs L d w h.qr h.pr (Nat.le_trans hw.len hk) hw.fit (Nat.le_trans (hw.of _) hk) h.dis (fun e => h01 (.inl e)) (fun e => h01 (.inr e)) h2).mono ?_
      rintro e w' ⟨hn, g1, g2, g3⟩
      exact ⟨hn, _, ⟨r, a, rs, ats, vs, h.step2 g1 g2 g3, rfl⟩, g3, fun b hb => .inl hb⟩
end
end Go.Proofs.Ytgdpapcgghiljaa
