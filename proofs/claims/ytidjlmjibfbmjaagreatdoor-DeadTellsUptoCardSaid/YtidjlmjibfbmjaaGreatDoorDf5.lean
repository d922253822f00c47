/- Contracts: the reached blocks (reference). -/
import Derived.Test.YtidjlmjibfbmjaaGreatDoorDf4
namespace Go.DL
open Go.RowKit
theorem nextF_len (f : Form) : (nextF f).length = f.blocks.length := by simp [nextF]
theorem nextF_range {f : Form} {b : Nat} {l : List Int} (h : (nextF f)[b]? = some l) {t : Int} (ht : t ∈ l) : 0 ≤ t ∧ t < (nextF f).length := by
  rw [nextF_len]
  unfold nextF at h
  rw [List.getElem?_map] at h
  obtain ⟨x, _, rfl⟩ := Option.map_eq_some_iff.1 h
  unfold nextB at ht
  obtain ⟨e, _, he⟩ := List.mem_filterMap.1 ht
  unfold okTo at he
  split at he
  · cases he; assumption
  · cases he
theorem row_nat {α β : Type} {l : List α} {f : α → β} {i : Nat} (h : i < l.length) : (l.map f)[i]? = some (f l[i]) := by simp [h]
theorem row_nat' {α β : Type} {l : List α} {f : α → β} {i j : Nat} (e : j = i) (h : i < l.length) : (l.map f)[j]? = some (f l[i]) := by subst e; simp [h]
def ClosedAt (nx : List (List Int)) (S : List Bool) (b : Nat) : Prop := ∀ l, nx[b]? = some l → on S b → ∀ t ∈ l, on S t.toNat
set_option maxRecDepth 100000 in
theorem con24 (f : Form) (hb : f.size ≤ 2 ^ 30) : Con 24 [f.A] (.d (bl (reachL (nextF f)))) := by
  have hn : (nextF f).length ≤ 2 ^ 30 := by rw [nextF_len]; exact Nat.le_trans f.blocks_le hb
  have m1 : (nextF f).length ≤ maxLen := Nat.le_trans hn (by decide)
  refine con_intro Go.Proofs.Tryz.func24 Go.Proofs.Tryz.call24 fun hw wb => ?_
  conv => whnf
  refine con_use (con47 f hb) rfl rfl ?_
  conv => whnf
  refine ⟨(nextF f).length, (nextF f).length, by simp, by simp, Nat.le_refl _, by show _ * 1 ≤ _; omega, m1, by decide, ?_⟩
  conv => whnf
  refine ⟨rfl, ?_⟩
  conv => whnf
  refine brd (fun h => ?_) (fun h => ?_)
  · have h0 : 0 < (nextF f).length := by simpa using h
    conv => whnf
    refine ⟨rfl, rfl, by decide, 0, rfl, by simpa using h0, ?_⟩
    conv => whnf
    refine ⟨rfl, ?_⟩
    conv => whnf
    refine loop_tmpl Θok (S := List Bool × Bool) (fun ⟨_, more⟩ => [(4, .vs 1 0 0), (5, .d (.b more))]) [3]
      (fun ⟨out, _⟩ => [.box (mapD f.row), .vec 0 1 (out.map fun b => [.d (.b b)])])
      (fun ⟨out, more⟩ => out.length = (nextF f).length ∧ (0 < (nextF f).length → on out 0) ∧ (∀ S, Closed (nextF f) S → ∀ v, on out v → on S v) ∧ (more = false → Closed (nextF f) out))
      (fun ⟨out, more⟩ => 2 * offs out + (if more then 1 else 0)) ((List.replicate (nextF f).length false).set 0 true, true) (Nat.le_refl _)
      (fun ⟨out, _⟩ => ⟨rfl, refsH_cons rfl (refsH_cons (refsR_map (fun _ => rfl) out) rfl)⟩) ?_ ?_
    · refine ⟨⟨by simp, fun _ => by simp [on, h0], ?_, by simp⟩, ?_⟩
      · intro S hS v hv
        rcases on_set hv with rfl | hv
        · exact hS.base h0
        · exfalso
          unfold on at hv
          rw [List.getElem?_replicate] at hv
          split at hv <;> cases hv
      · iterate 2
          conv => whnf
          refine ⟨rfl, ?_⟩
        refine ⟨.inr rfl, .inr ?_, trivial⟩
        simp [List.map_set, List.map_replicate]
    · rintro ⟨out, more⟩ ⟨i1, i2, i3, i4⟩ hH
      conv => whnf
      intro hE
      conv => whnf
      refine br (fun hm => ?_) (fun hm => ?_)
      · conv => whnf
        refine loop_tmpl Θok (S := List Bool × Bool × Nat) (fun ⟨_, mo, b⟩ => [(4, .vs 1 0 0), (5, .d (.b mo)), (6, .d (.i .i64 b))]) [3]
          (fun ⟨o2, _, _⟩ => [.box (mapD f.row), .vec 0 1 (o2.map fun b => [.d (.b b)])])
          (fun ⟨o2, mo, b⟩ => o2.length = (nextF f).length ∧ (∀ v, on out v → on o2 v) ∧ (∀ S, Closed (nextF f) S → ∀ v, on o2 v → on S v) ∧ (mo = true → offs o2 < offs out) ∧ b ≤ (nextF f).length ∧
            (mo = false → o2 = out ∧ ∀ b', b' < b → ClosedAt (nextF f) out b'))
          (fun ⟨_, _, b⟩ => (nextF f).length - b) (out, false, 0) (Nat.le_refl _)
          (fun ⟨o2, _, _⟩ => ⟨rfl, refsH_cons rfl (refsH_cons (refsR_map (fun _ => rfl) o2) rfl)⟩) ?_ ?_
        · refine ⟨⟨i1, fun _ h => h, i3, by simp, Nat.zero_le _, fun _ => ⟨rfl, fun _ h => by omega⟩⟩, ?_⟩
          iterate 3
            conv => whnf
            refine ⟨rfl, ?_⟩
          exact wkH_refl _
        · rintro ⟨o2, mo, b⟩ ⟨j1, j2, j3, j4, j5, j6⟩ hH2
          conv => whnf
          intro hE2
          conv => whnf
          refine brd (fun hb2 => ?_) (fun hb2 => ?_)
          · have hbl : b < (nextF f).length := by simpa using hb2
            have hnb : (nextF f)[b]? = some (nextF f)[b] := List.getElem?_eq_getElem hbl
            conv => whnf
            have hsound : ∀ S, Closed (nextF f) S → ∀ (o : List Bool), (∀ v, on o v → on S v) → ∀ (k : Nat) (hk : k < ((nextF f)[b]).length), on o b → ∀ v, on (o.set ((nextF f)[b])[k].toNat true) v → on S v := by
              intro S hS o ho k hk hob v hv
              rcases on_set hv with rfl | hv
              · exact hS.next b _ hnb (ho b hob) _ (List.getElem_mem hk)
              · exact ho v hv
            have hrow : (nextF f)[b].length ≤ maxLen := by
              have h1 : (nextF f)[b] = nextB f.blocks.length (f.blocks[b]'(by rw [← nextF_len]; exact hbl)) := by simp [nextF]
              rw [h1]
              unfold nextB
              refine Nat.le_trans (List.length_filterMap_le _ _) (Nat.le_trans (Blk.to_le _) (Nat.le_trans (Form.block_le _) (Nat.le_trans hb (by decide))))
            refine loop_tmpl Θok (S := List Bool × Bool × Nat) (fun ⟨_, mo3, k⟩ => [(4, .vs 1 0 0), (5, .d (.b mo3)), (7, .d (.i .i64 k))]) [3, 6]
              (fun ⟨o3, _, _⟩ => [.box (mapD f.row), .vec 0 1 (o3.map fun b => [.d (.b b)])])
              (fun ⟨o3, mo3, k⟩ => o3.length = (nextF f).length ∧ (∀ v, on o2 v → on o3 v) ∧ (∀ S, Closed (nextF f) S → ∀ v, on o3 v → on S v) ∧ (mo3 = true → offs o3 < offs out) ∧ k ≤ (nextF f)[b].length ∧
                (mo3 = false → o3 = out ∧ ∀ b', b' < b → ClosedAt (nextF f) out b') ∧ (0 < k → on o3 b) ∧ ∀ t ∈ (nextF f)[b].take k, on o3 t.toNat)
              (fun ⟨_, _, k⟩ => (nextF f)[b].length - k) (o2, mo, 0) (Nat.le_refl _)
              (fun ⟨o3, _, _⟩ => ⟨rfl, refsH_cons rfl (refsH_cons (refsR_map (fun _ => rfl) o3) rfl)⟩) ?_ ?_
            · refine ⟨⟨j1, fun _ h => h, j3, j4, Nat.zero_le _, j6, fun h => absurd h (by omega), by simp⟩, ?_⟩
              iterate 3
                conv => whnf
                refine ⟨rfl, ?_⟩
              exact wkH_refl _
            · rintro ⟨o3, mo3, k⟩ ⟨k1, k2, k3, k4, k5, k6, k7, k8⟩ hH3
              have hend : mo3 = false → (k = (nextF f)[b].length ∨ ¬ on o3 b) → o3 = out ∧ ∀ b', b' < b + 1 → ClosedAt (nextF f) out b' := by
                intro h1 h2
                obtain ⟨rfl, hcl⟩ := k6 h1
                refine ⟨rfl, fun b' hb' => ?_⟩
                by_cases e : b' = b
                · subst e
                  intro l hl hon t ht
                  rw [hnb] at hl
                  cases hl
                  rcases h2 with h2 | h2
                  · rw [h2, List.take_length] at k8
                    exact k8 t ht
                  · exact absurd hon h2
                · exact hcl b' (by omega)
              conv => whnf
              intro hE3
              conv => whnf
              refine ⟨Int.natCast_nonneg b, _, row_at hbl, rfl, ?_⟩
              conv => whnf
              refine brd (fun hk => ?_) (fun hk => ?_)
              · have hkl : k < (nextF f)[b].length := by simpa using hk
                conv => whnf
                have hb3 : b < o3.length := by omega
                refine ⟨rfl, rfl, Int.natCast_nonneg b, b, by simp, by simpa using hb3, ?_⟩
                conv => whnf
                refine ⟨rfl, _, row_nat hb3, ?_⟩
                conv => whnf
                refine br (fun hob => ?_) (fun hob => ?_)
                · have hon : on o3 b := by unfold on; rw [List.getElem?_eq_getElem hb3, hob]
                  have htr := nextF_range hnb (List.getElem_mem hkl)
                  have htl : ((nextF f)[b])[k].toNat < o3.length := by omega
                  have hk8 : ∀ (o : List Bool), (∀ v, on o3 v → on o v) → on o ((nextF f)[b])[k].toNat → ∀ t ∈ ((nextF f)[b]).take (k + 1), on o t.toNat := by
                    intro o ho h1 t ht
                    rw [List.take_succ_eq_append_getElem hkl] at ht
                    rcases List.mem_append.1 ht with ht | ht
                    · exact ho _ (k8 t ht)
                    · simp at ht; subst ht; exact h1
                  conv => whnf
                  refine ⟨Int.natCast_nonneg b, _, row_at hbl, rfl, ?_⟩
                  conv => whnf
                  refine ⟨Int.natCast_nonneg k, _, row_at hkl, rfl, ?_⟩
                  conv => whnf
                  refine ⟨rfl, rfl, htr.1, _, rfl, by simpa using htl, ?_⟩
                  conv => whnf
                  refine ⟨rfl, _, row_nat' (by simp) htl, ?_⟩
                  conv => whnf
                  refine br (fun hnot => ?_) (fun hnot => ?_)
                  · have hyes : on o3 ((nextF f)[b])[k].toNat := by
                      unfold on
                      rw [List.getElem?_eq_getElem htl]
                      simpa using hnot
                    conv => whnf
                    refine ⟨_, wrap_succ hkl hrow, ?_⟩
                    conv => whnf
                    refine ⟨(o3, mo3, k + 1), ⟨k1, k2, k3, k4, hkl, k6, fun _ => hon, hk8 _ (fun _ h => h) hyes⟩, Nat.sub_succ_lt_self _ _ hkl, Nat.le_refl _, ?_⟩
                    iterate 5
                      conv => whnf
                      refine ⟨rfl, ?_⟩
                    exact wkH_refl _
                  · have hoff : o3[((nextF f)[b])[k].toNat]? = some false := by
                      rw [List.getElem?_eq_getElem htl]
                      simpa using hnot
                    have hcnt := offs_set hoff
                    have hle : offs o3 ≤ offs out := by
                      cases mo3 with
                      | true => exact Nat.le_of_lt (k4 rfl)
                      | false => rw [(k6 rfl).1]; exact Nat.le_refl _
                    conv => whnf
                    refine ⟨Int.natCast_nonneg b, _, row_at hbl, rfl, ?_⟩
                    conv => whnf
                    refine ⟨Int.natCast_nonneg k, _, row_at hkl, rfl, ?_⟩
                    conv => whnf
                    refine ⟨rfl, rfl, htr.1, _, rfl, by simpa using htl, ?_⟩
                    conv => whnf
                    refine ⟨rfl, ?_⟩
                    conv => whnf
                    refine ⟨_, wrap_succ hkl hrow, ?_⟩
                    conv => whnf
                    refine ⟨(o3.set ((nextF f)[b])[k].toNat true, true, k + 1), ⟨by simpa using k1, fun v h => on_set_of (k2 v h), fun S hS => hsound S hS o3 (k3 S hS) k hkl hon, fun _ => by omega, hkl,
                      fun h => (by cases h), fun _ => on_set_of hon, hk8 _ (fun v h => on_set_of h) ?_⟩, Nat.sub_succ_lt_self _ _ hkl, Nat.le_refl _, ?_⟩
                    · unfold on
                      rw [List.getElem?_set_self htl]
                    · iterate 5
                        conv => whnf
                        refine ⟨rfl, ?_⟩
                      refine ⟨.inr rfl, .inr ?_, trivial⟩
                      simp [List.map_set]
                · have hon : ¬ on o3 b := by unfold on; rw [List.getElem?_eq_getElem hb3, hob]; simp
                  conv => whnf
                  refine ⟨_, wrap_succ hbl m1, ?_⟩
                  conv => whnf
                  refine ⟨(o3, mo3, b + 1), ⟨k1, fun v h => k2 v (j2 v h), k3, k4, hbl, fun h => hend h (.inr hon)⟩, Nat.sub_succ_lt_self _ _ hbl, Nat.le_refl _, ?_⟩
                  iterate 4
                    conv => whnf
                    refine ⟨rfl, ?_⟩
                  exact wkH_refl _
              · have hkl : k = (nextF f)[b].length := by
                  have : ¬ k < (nextF f)[b].length := by simpa using hk
                  omega
                conv => whnf
                refine ⟨_, wrap_succ hbl m1, ?_⟩
                conv => whnf
                refine ⟨(o3, mo3, b + 1), ⟨k1, fun v h => k2 v (j2 v h), k3, k4, hbl, fun h => hend h (.inl hkl)⟩, Nat.sub_succ_lt_self _ _ hbl, Nat.le_refl _, ?_⟩
                iterate 4
                  conv => whnf
                  refine ⟨rfl, ?_⟩
                exact wkH_refl _
          · have hbl : b = (nextF f).length := by
              have : ¬ b < (nextF f).length := by simpa using hb2
              omega
            conv => whnf
            refine ⟨(o2, mo), ⟨j1, fun h => j2 0 (i2 h), j3, fun h => ?_⟩, ?_, Nat.le_refl _, ?_⟩
            · obtain ⟨rfl, hcl⟩ := j6 h
              exact ⟨j1, i2, fun b l hl hon t ht => hcl b (by rw [hbl]; exact (List.getElem?_eq_some_iff.1 hl).1) l hl hon t ht⟩
            · show 2 * offs o2 + (if mo then 1 else 0) < 2 * offs out + (if more then 1 else 0)
              rw [hm, if_pos rfl]
              cases mo with
              | true => have := j4 rfl; rw [if_pos rfl]; omega
              | false => obtain ⟨rfl, _⟩ := j6 rfl; rw [if_neg (by simp)]; omega
            · iterate 3
                conv => whnf
                refine ⟨rfl, ?_⟩
              exact wkH_refl _
      · conv => whnf
        have hc := i4 hm
        refine ⟨rfl, out.map fun b => [.b b], by simp [dropN, mapD], ?_⟩
        have := reach_eq hc i3
        rw [← this]
        rfl
  · have hnil : nextF f = [] := by
      have : ¬ 0 < (nextF f).length := by simpa using h
      exact List.eq_nil_of_length_eq_zero (by omega)
    conv => whnf
    refine loop_tmpl Θok (S := Bool) (fun more => [(4, .vs 1 0 0), (5, .d (.b more))]) [3]
      (fun _ => [.box (mapD f.row), .vec 0 1 []]) (fun _ => True) (fun more => if more then 1 else 0) true (Nat.le_refl _)
      (fun _ => ⟨rfl, refsH_cons rfl (refsH_cons rfl rfl)⟩) ?_ ?_
    · refine ⟨trivial, ?_⟩
      iterate 2
        conv => whnf
        refine ⟨rfl, ?_⟩
      refine ⟨.inr rfl, .inr ?_, trivial⟩
      simp [hnil]
    · intro more _ hH
      conv => whnf
      intro hE
      conv => whnf
      refine br (fun hm => ?_) (fun hm => ?_)
      · conv => whnf
        refine loop_tmpl Θok (S := Unit) (fun _ => [(4, .vs 1 0 0), (5, .d (.b false)), (6, .d (.i .i64 0))]) [3]
          (fun _ => [.box (mapD f.row), .vec 0 1 []]) (fun _ => True) (fun _ => 0) () (Nat.le_refl _)
          (fun _ => ⟨rfl, refsH_cons rfl (refsH_cons rfl rfl)⟩) ?_ ?_
        · refine ⟨trivial, ?_⟩
          iterate 3
            conv => whnf
            refine ⟨rfl, ?_⟩
          exact wkH_refl _
        · intro _ _ hH2
          conv => whnf
          intro hE2
          conv => whnf
          refine brd (fun hb2 => ?_) (fun hb2 => ?_)
          · exfalso
            rw [hnil] at hb2
            simp at hb2
          · conv => whnf
            refine ⟨false, trivial, by rw [hm]; decide, Nat.le_refl _, ?_⟩
            iterate 3
              conv => whnf
              refine ⟨rfl, ?_⟩
            exact wkH_refl _
      · conv => whnf
        refine ⟨rfl, [], rfl, ?_⟩
        rw [hnil]
        rfl
end Go.DL
