/- Contract: the reached blocks (program). -/
import Derived.Test.YtidjlmjibfbmjaaGreatDoorDf10
namespace Go.DL
open Go.RowKit
def offSum : List (List Int) → List Bool → Nat
  | l :: nx, b :: out => (if b then 0 else l.length) + offSum nx out
  | _, _ => 0
theorem offSum_set : ∀ {nx : List (List Int)} {out : List Bool} {b : Nat} {l : List Int}, nx[b]? = some l → out[b]? = some false → offSum nx (out.set b true) + l.length = offSum nx out
  | x :: nx, c :: out, 0, l, h1, h2 => by
    simp at h1 h2
    subst h1
    subst h2
    simp [offSum]
    omega
  | x :: nx, c :: out, b + 1, l, h1, h2 => by
    have := offSum_set (nx := nx) (out := out) (b := b) (l := l) (by simpa using h1) (by simpa using h2)
    simp only [List.set_cons_succ, offSum]
    omega
theorem offSum_init : ∀ nx : List (List Int), offSum nx (List.replicate nx.length false) = sumL (nx.map List.length)
  | [] => rfl
  | l :: nx => by
    have := offSum_init nx
    simp only [List.length_cons, List.replicate_succ, offSum, List.map_cons, sumL, List.foldr_cons] at this ⊢
    simp
    exact this
theorem sumL_mono {α : Type} {f g : α → Nat} (h : ∀ a, f a ≤ g a) : ∀ l : List α, sumL (l.map f) ≤ sumL (l.map g)
  | [] => Nat.le_refl _
  | a :: l => by
    have := sumL_mono h l
    have := h a
    simp only [List.map_cons, sumL, List.foldr_cons] at *
    omega
theorem nextF_sum (f : Form) : sumL ((nextF f).map List.length) ≤ f.size := by
  have h : sumL ((nextF f).map List.length) ≤ sumL (f.blocks.map Blk.size) := by
    unfold nextF
    rw [List.map_map]
    refine sumL_mono (fun b => ?_) f.blocks
    refine Nat.le_trans (List.length_filterMap_le _ _) (Blk.to_le b)
  unfold Form.size
  omega

structure Bfs (nx : List (List Int)) (out : List Bool) (q : List Int) : Prop where
  len : out.length = nx.length
  rng : ∀ t ∈ q, 0 ≤ t ∧ t < nx.length
  sound : ∀ S, Closed nx S → (∀ v, on out v → on S v) ∧ ∀ t ∈ q, on S t.toNat
  zero : on out 0 ∨ (0 : Int) ∈ q
  step : ∀ (b : Nat) (l : List Int), nx[b]? = some l → on out b → ∀ t ∈ l, on out t.toNat ∨ t ∈ q
  bound : q.length + offSum nx out ≤ 1 + sumL (nx.map List.length)
theorem bfs_init {nx : List (List Int)} (h : 0 < nx.length) : Bfs nx (List.replicate nx.length false) [0] := by
  have off : ∀ v, ¬ on (List.replicate nx.length false) v := by
    intro v hv
    unfold on at hv
    rw [List.getElem?_replicate] at hv
    split at hv <;> cases hv
  refine ⟨by simp, by simp; omega, fun S hS => ⟨fun v hv => absurd hv (off v), by simp; exact hS.base h⟩, .inr (by simp), fun b l _ hb => absurd hb (off b), ?_⟩
  rw [offSum_init]
  simp
theorem bfs_old {nx : List (List Int)} {out : List Bool} {b : Int} {q : List Int} (h : Bfs nx out (b :: q)) (hb : on out b.toNat) : Bfs nx out q := by
  obtain ⟨h1, h2, h3, h4, h5, h6⟩ := h
  refine ⟨h1, fun t ht => h2 t (by simp [ht]), fun S hS => ⟨(h3 S hS).1, fun t ht => (h3 S hS).2 t (by simp [ht])⟩, ?_, ?_, ?_⟩
  · rcases h4 with h4 | h4
    · exact .inl h4
    · rcases List.mem_cons.1 h4 with h4 | h4
      · left; rw [← h4] at hb; simpa using hb
      · exact .inr h4
  · intro c l hc hon t ht
    rcases h5 c l hc hon t ht with h | h
    · exact .inl h
    · rcases List.mem_cons.1 h with h | h
      · left; rw [h]; exact hb
      · exact .inr h
  · simp only [List.length_cons] at h6; omega
theorem bfs_new {nx : List (List Int)} {out : List Bool} {b : Int} {q l : List Int} (h : Bfs nx out (b :: q)) (hl : nx[b.toNat]? = some l) (hr : ∀ t ∈ l, 0 ≤ t ∧ t < nx.length) (hb : out[b.toNat]? = some false) :
    Bfs nx (out.set b.toNat true) (q ++ l) := by
  obtain ⟨h1, h2, h3, h4, h5, h6⟩ := h
  have hlt : b.toNat < out.length := (List.getElem?_eq_some_iff.1 hb).1
  have now : on (out.set b.toNat true) b.toNat := by unfold on; rw [List.getElem?_set_self hlt]
  refine ⟨by simpa using h1, ?_, ?_, ?_, ?_, ?_⟩
  · intro t ht
    rcases List.mem_append.1 ht with ht | ht
    · exact h2 t (by simp [ht])
    · exact hr t ht
  · intro S hS
    have hbS := (h3 S hS).2 b (by simp)
    refine ⟨fun v hv => ?_, fun t ht => ?_⟩
    · rcases on_set hv with rfl | hv
      · exact hbS
      · exact (h3 S hS).1 v hv
    · rcases List.mem_append.1 ht with ht | ht
      · exact (h3 S hS).2 t (by simp [ht])
      · exact hS.next _ l hl hbS t ht
  · rcases h4 with h4 | h4
    · exact .inl (on_set_of h4)
    · rcases List.mem_cons.1 h4 with h4 | h4
      · left; rw [← h4] at now ⊢; simpa using now
      · right; simp [h4]
  · intro c l' hc hon t ht
    rcases on_set hon with rfl | hon
    · rw [hl] at hc
      cases hc
      right; simp [ht]
    · rcases h5 c l' hc hon t ht with h | h
      · exact .inl (on_set_of h)
      · rcases List.mem_cons.1 h with h | h
        · left; rw [h]; exact now
        · right; simp [h]
  · have := offSum_set hl hb
    simp only [List.length_cons, List.length_append] at h6 ⊢
    omega
theorem bfs_done {nx : List (List Int)} {out : List Bool} (h : Bfs nx out []) : out = reachL nx := by
  obtain ⟨h1, h2, h3, h4, h5, h6⟩ := h
  refine reach_eq ⟨h1, fun _ => ?_, fun b l hl hb t ht => ?_⟩ fun S hS => (h3 S hS).1
  · rcases h4 with h4 | h4
    · exact h4
    · cases h4
  · rcases h5 b l hl hb t ht with h | h
    · exact h
    · cases h

set_option maxRecDepth 100000 in
theorem con11 (f : Form) (hb : f.size ≤ 2 ^ 30) : Con 11 [f.A] (.d (bl (reachL (nextF f)))) := by
  have hn : (nextF f).length ≤ 2 ^ 30 := by rw [nextF_len]; exact Nat.le_trans f.blocks_le hb
  have m1 : (nextF f).length ≤ maxLen := Nat.le_trans hn (by decide)
  have hsum := nextF_sum f
  refine con_intro Go.Proofs.Tryz.func11 Go.Proofs.Tryz.call11 fun hw wb => ?_
  conv => whnf
  refine con_use (con23 f hb) rfl rfl ?_
  conv => whnf
  refine ⟨(nextF f).length, (nextF f).length, by simp, by simp, Nat.le_refl _, by show _ * 1 ≤ _; omega, m1, by decide, ?_⟩
  conv => whnf
  refine loop_tmpl Θok (S := List Bool × List Int × Nat × Nat) (fun ⟨_, _, g, off⟩ => [(5, .vs 2 g off)]) [3, 4]
    (fun ⟨out, els, g, _⟩ => [.box (mapD f.row), .vec 0 1 (out.map fun b => [.d (.b b)]), .vec g 1 (els.map fun n => [.d (.i .i64 n)])])
    (fun ⟨out, els, _, off⟩ => out.length = (nextF f).length ∧ off ≤ els.length ∧ (0 < (nextF f).length → Bfs (nextF f) out (els.drop off)))
    (fun ⟨out, els, _, off⟩ => (els.drop off).length + offSum (nextF f) out + offs out) (List.replicate (nextF f).length false, [0], 0, 0) (Nat.le_refl _)
    (fun ⟨out, els, _, _⟩ => ⟨rfl, refsH_cons rfl (refsH_cons (refsR_map (fun _ => rfl) out) (refsH_cons (refsR_map (fun _ => rfl) els) rfl))⟩) ?_ ?_
  · refine ⟨⟨by simp, Nat.zero_le _, fun h => bfs_init h⟩, ?_⟩
    conv => whnf
    refine ⟨rfl, ?_⟩
    refine ⟨.inr rfl, .inr ?_, .inr rfl, trivial⟩
    simp [List.map_replicate]
  · rintro ⟨out, els, g, off⟩ ⟨i1, i2, i3⟩ hH
    obtain ⟨o, ho⟩ : ∃ o, o = off := ⟨off, rfl⟩
    conv => whnf
    intro hE
    conv => whnf
    refine ⟨rfl, ?_⟩
    have stop : ¬ (o < els.length ∧ 0 < out.length) → out = reachL (nextF f) := by
      intro h
      by_cases h0 : 0 < (nextF f).length
      · have hd : els.drop o = [] := List.drop_eq_nil_of_le (by omega)
        have := i3 h0
        rw [← ho, hd] at this
        exact bfs_done this
      · have h1 : out = [] := List.eq_nil_of_length_eq_zero (by omega)
        have h2 : nextF f = [] := List.eq_nil_of_length_eq_zero (by omega)
        rw [h1, h2]
        rfl
    have stop' : ∀ {K : Prop}, (K = (∃ rows : List (List D), dropN 0 (out.map fun b => [A.d (.b b)]) = rows.map mapD ∧ A.d (.sl rows) = .d (bl (reachL (nextF f))))) → ¬ (o < els.length ∧ 0 < out.length) → K := by
      intro K e h
      rw [e, ← stop h]
      exact ⟨out.map fun b => [.b b], by simp [dropN, mapD], rfl⟩
    rcases off with _ | off
    all_goals
      conv => whnf
      refine brd (fun h1 => ?_) (fun h1 => ?_)
      rotate_left
      · conv => whnf
        refine ⟨rfl, ?_⟩
        exact stop' rfl (fun hh => h1 (by simp; omega))
      have h1' : o < els.length := by
        simp at h1
        omega
      conv => whnf
      refine ⟨rfl, ?_⟩
      conv => whnf
      refine brd (fun h2 => ?_) (fun h2 => ?_)
      rotate_left
      · conv => whnf
        refine ⟨rfl, ?_⟩
        exact stop' rfl (fun hh => h2 (by simp; omega))
      have h2' : 0 < out.length := by simpa using h2
      have h0 : 0 < (nextF f).length := by omega
      have hB := i3 h0
      rw [← ho, List.drop_eq_getElem_cons h1'] at hB
      obtain ⟨hr0, hr1⟩ := hB.rng els[o] (List.mem_cons_self)
      have hlo : els[o].toNat < out.length := by omega
      have hln : els[o].toNat < (nextF f).length := by omega
      have hnx : (nextF f)[els[o].toNat]? = some ((nextF f)[els[o].toNat]) := List.getElem?_eq_getElem hln
      have hbnd := hB.bound
      simp only [List.length_cons] at hbnd
      conv => whnf
      refine ⟨rfl, rfl, by decide, o, by simp; omega, by simpa using h1', ?_⟩
      conv => whnf
      refine ⟨rfl, _, row_nat h1', ?_⟩
      conv => whnf
      refine ⟨rfl, rfl, by decide, o + 1, by simp; omega, by simp; omega, ?_⟩
      conv => whnf
      refine ⟨rfl, rfl, hr0, els[o].toNat, by simp, by simpa using hlo, ?_⟩
      conv => whnf
      refine ⟨rfl, _, row_nat hlo, ?_⟩
      conv => whnf
      refine br (fun h3 => ?_) (fun h3 => ?_)
      · conv => whnf
        refine ⟨(out, els, g, o + 1), ⟨i1, h1', fun _ => bfs_old hB (by unfold on; rw [List.getElem?_eq_getElem hlo, h3])⟩, ?_, Nat.le_refl _, ?_⟩
        · simp only [List.length_drop]
          omega
        · repeat
            conv => whnf
            refine ⟨rfl, ?_⟩
          exact wkH_refl _
      · have hf : out[els[o].toNat]? = some false := by rw [List.getElem?_eq_getElem hlo, h3]
        have hos := offs_set hf
        have hss := offSum_set hnx hf
        conv => whnf
        refine ⟨rfl, rfl, hr0, els[o].toNat, by simp, by simpa using hlo, ?_⟩
        conv => whnf
        refine ⟨rfl, ?_⟩
        conv => whnf
        refine ⟨hr0, _, row_int hr0 hr1, rfl, ?_⟩
        conv => whnf
        refine ⟨rfl, rfl, by simp [mapD], ?_, ?_⟩
        · simp [dropN]
          simp at hbnd
          omega
        conv => whnf
        refine ⟨(out.set els[o].toNat true, els.drop (o + 1) ++ (nextF f)[els[o].toNat], g + 1, 0), ⟨by simpa using i1, Nat.zero_le _, fun _ => ?_⟩, ?_, Nat.le_refl _, ?_⟩
        · exact bfs_new hB hnx (fun t ht => nextF_range hnx ht) hf
        · simp only [List.length_drop, List.drop_zero, List.length_append]
          omega
        · repeat
            conv => whnf
            refine ⟨rfl, ?_⟩
          refine ⟨.inr rfl, .inr ?_, .inr ?_, trivial⟩
          · simp [List.map_set]
          · simp [dropN, mapD, List.map_drop]
end Go.DL
