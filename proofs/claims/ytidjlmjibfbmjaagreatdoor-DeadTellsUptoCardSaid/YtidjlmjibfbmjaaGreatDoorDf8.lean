/- Contracts: the needed values (reference). (begun) -/
import Derived.Test.YtidjlmjibfbmjaaGreatDoorDf7
namespace Go.DL
open Go.RowKit
theorem wantedL_len (f : Form) (b : Blk) (out : List Bool) : (wantedL f b out).length ≤ b.size := by
  unfold wantedL
  rw [List.length_append, List.length_append]
  have h1 := flatMap_len (insW out) Ins.size (insW_len out) b.ins
  have h2 := flatMap_len (edgW f out) Edg.size (edgW_len f out) b.fin.to
  have h3 : (endW b.fin).length ≤ 1 + b.fin.args.length := by
    unfold endW
    rw [List.length_append]
    split <;> split <;> simp <;> omega
  unfold Blk.size
  omega

set_option maxRecDepth 100000 in
theorem con14 (f : Form) (hb : f.size ≤ 2 ^ 30) : Con 14 [f.A] (.d (bl (neededL f (reachL (nextF f))))) := by
  have hn : f.vals.length ≤ 2 ^ 30 := by unfold Form.size at hb; omega
  have m1 : f.vals.length ≤ maxLen := Nat.le_trans hn (by decide)
  refine con_intro Go.Proofs.Tryz.func14 Go.Proofs.Tryz.call14 fun hw wb => ?_
  conv => whnf
  refine ⟨f.vals.length, f.vals.length, by simp, by simp, Nat.le_refl _, by show _ * 1 ≤ _; omega, m1, by decide, ?_⟩
  conv => whnf
  refine con_use (con12 f hb) rfl rfl ?_
  conv => whnf
  refine loop_tmpl Θok (S := List Bool × Bool) (fun ⟨_, more⟩ => [(3, .vs 1 0 0), (5, .d (.b more))]) [1, 4]
    (fun ⟨out, _⟩ => [.box (mapD f.row), .vec 0 1 (out.map fun b => [.d (.b b)])])
    (fun ⟨out, more⟩ => out.length = f.vals.length ∧ (∀ S, NClosed f (reachL (nextF f)) S → ∀ v, on out v → on S v) ∧ (more = false → NClosed f (reachL (nextF f)) out))
    (fun ⟨out, more⟩ => 2 * offs out + (if more then 1 else 0)) (List.replicate f.vals.length false, true) (Nat.le_refl _)
    (fun ⟨out, _⟩ => ⟨rfl, refsH_cons rfl (refsH_cons (refsR_map (fun _ => rfl) out) rfl)⟩) ?_ ?_
  · refine ⟨⟨by simp, ?_, by simp⟩, ?_⟩
    · intro S hS v hv
      exfalso
      unfold on at hv
      rw [List.getElem?_replicate] at hv
      split at hv <;> cases hv
    · iterate 2
        conv => whnf
        refine ⟨rfl, ?_⟩
      refine ⟨.inr rfl, .inr ?_, trivial⟩
      simp [List.map_replicate]
  · rintro ⟨out, more⟩ ⟨i1, i3, i4⟩ hH
    conv => whnf
    intro hE
    conv => whnf
    refine br (fun hm => ?_) (fun hm => ?_)
    · conv => whnf
      refine loop_tmpl Θok (S := List Bool × Bool × Nat) (fun ⟨_, mo, b⟩ => [(3, .vs 1 0 0), (5, .d (.b mo)), (6, .d (.i .i64 b))]) [1, 4]
        (fun ⟨o2, _, _⟩ => [.box (mapD f.row), .vec 0 1 (o2.map fun b => [.d (.b b)])])
        (fun ⟨o2, mo, b⟩ => o2.length = f.vals.length ∧ Sub out o2 ∧ (∀ S, NClosed f (reachL (nextF f)) S → ∀ v, on o2 v → on S v) ∧ (mo = true → offs o2 < offs out) ∧ b ≤ f.blocks.length ∧
          (mo = false → o2 = out ∧ ∀ (b' : Nat) (x : Blk), b' < b → f.blocks[b']? = some x → on (reachL (nextF f)) b' → ∀ v ∈ wantedL f x out, 0 ≤ v → v < out.length → on out v.toNat))
        (fun ⟨_, _, b⟩ => f.blocks.length - b) (out, false, 0) (Nat.le_refl _)
        (fun ⟨o2, _, _⟩ => ⟨rfl, refsH_cons rfl (refsH_cons (refsR_map (fun _ => rfl) o2) rfl)⟩) ?_ ?_
      · refine ⟨⟨i1, fun _ h => h, i3, by simp, Nat.zero_le _, fun _ => ⟨rfl, fun _ _ h => by omega⟩⟩, ?_⟩
        iterate 3
          conv => whnf
          refine ⟨rfl, ?_⟩
        exact wkH_refl _
      · rintro ⟨o2, mo, b⟩ ⟨j1, j2, j3, j4, j5, j6⟩ hH2
        conv => whnf
        intro hE2
        conv => whnf
        refine brd (fun hb2 => ?_) (fun hb2 => ?_)
        · have hbl : b < f.blocks.length := by simpa using hb2
          have hbr : b < (reachL (nextF f)).length := by simpa [reachL, nextF] using hbl
          conv => whnf
          refine ⟨Int.natCast_nonneg b, _, row_at hbr, rfl, ?_⟩
          conv => whnf
          refine br (fun hre => ?_) (fun hre => ?_)
          · conv => whnf
            refine region_plan Θok rfl (.take 0 (.take 1 (.take 2 (.take 3 (.take 4 (.take 5 (.take 6 (.take 7 (.alt 8 false (.alt 9 true (.take 10 (.take 11 (.take 12 (.take 13 (.take 14 .done))))) .stop) .stop))))))))) rfl ?_
            conv => whnf
            refine ⟨Int.natCast_nonneg b, _, row_at hbl, rfl, ?_⟩
            conv => whnf
            refine ⟨?_, trivial⟩
            conv => whnf
            refine conF_lend Go.Proofs.Tryz.call32 (r := .d (il (wantedL f f.blocks[b] o2))) ?_ ?_
            · conv => whnf
              refine ⟨rfl, o2.map fun b => [.b b], by simp [dropN, mapD], ?_⟩
              conv => whnf
              exact con32 f f.blocks[b] o2 (Nat.le_trans (Form.block_le hbl) hb)
            conv => whnf
            refine ⟨⟨[], rfl⟩, ?_⟩
            conv => whnf
            refine ⟨?_, trivial⟩
            conv => whnf
            have hwl : (wantedL f f.blocks[b] o2).length ≤ maxLen := Nat.le_trans (wantedL_len _ _ _) (Nat.le_trans (Form.block_le hbl) (Nat.le_trans hb (by decide)))
            refine mark_ok rfl o2 (wantedL f f.blocks[b] o2) hwl ?_
            have s1 := mark_sub (wantedL f f.blocks[b] o2) (o2, false)
            have s2 := mark_sound (wantedL f f.blocks[b] o2) (o2, false)
            have s3 := mark_all (wantedL f f.blocks[b] o2) (o2, false)
            have s4 := mark_count (wantedL f f.blocks[b] o2) (o2, false)
            have s5 := markL_len o2 (wantedL f f.blocks[b] o2) false
            unfold markL
            generalize (wantedL f f.blocks[b] o2).foldl mark1 (o2, false) = r at s1 s2 s3 s4 s5
            obtain ⟨o3, fr⟩ := r
            simp only at s1 s2 s3 s4 s5
            obtain ⟨s4a, s4b, s4c⟩ := s4
            have hon : on (reachL (nextF f)) b := by unfold on; rw [List.getElem?_eq_getElem hbr, hre]
            have hbk : f.blocks[b]? = some f.blocks[b] := List.getElem?_eq_getElem hbl
            have q1 : o3.length = f.vals.length := s5.trans j1
            have q2 : Sub out o3 := fun v h => s1 v (j2 v h)
            have q3 : ∀ S, NClosed f (reachL (nextF f)) S → ∀ v, on o3 v → on S v := by
              intro S hS v hv
              rcases s2 v hv with h | ⟨x, hx, h0, h1, rfl⟩
              · exact j3 S hS v h
              · exact hS.step b _ hbk hon x (wantedL_mono (fun u hu => j3 S hS u hu) hx) h0 (by rw [hS.len, ← j1]; exact h1)
            have q4 : offs o3 ≤ offs o2 := s4b
            have hmo : mo = true → offs o2 < offs out := j4
            have q5 : (mo || fr) = true → offs o3 < offs out := by
              intro h
              cases mo with
              | true => have := j4 rfl; omega
              | false =>
                obtain ⟨rfl, _⟩ := j6 rfl
                have hf : fr = true := by simpa using h
                rcases s4c hf with h | h
                · cases h
                · exact h
            have q6 : (mo || fr) = false → o3 = out ∧ ∀ (b' : Nat) (x : Blk), b' < b + 1 → f.blocks[b']? = some x → on (reachL (nextF f)) b' → ∀ v ∈ wantedL f x out, 0 ≤ v → v < out.length → on out v.toNat := by
              intro h
              simp only [Bool.or_eq_false_iff] at h
              obtain ⟨rfl, hcl⟩ := j6 h.1
              obtain ⟨e3, _⟩ := s4a h.2
              subst e3
              refine ⟨rfl, fun b' x hb' hx hon' v hv h0 h1 => ?_⟩
              by_cases e : b' = b
              · subst e
                rw [hbk] at hx
                cases hx
                exact s3 v hv h0 h1
              · exact hcl b' x (by omega) hx hon' v hv h0 h1
            have mB : f.blocks.length ≤ maxLen := Nat.le_trans f.blocks_le (Nat.le_trans hb (by decide))
            clear s1 s2 s3 s4a s4b s4c s5
            have fin : ∀ t, (mo || fr) = t → True := fun _ _ => trivial
            cases fr <;> cases mo
            all_goals
              conv => whnf
              refine ⟨_, wrap_succ hbl mB, ?_⟩
              conv => whnf
            · refine ⟨(o3, false, b + 1), ⟨q1, q2, q3, q5, hbl, q6⟩, Nat.sub_succ_lt_self _ _ hbl, Nat.le_refl _, ?_⟩
              iterate 5
                conv => whnf
                refine ⟨rfl, ?_⟩
              exact wkH_refl _
            all_goals
              refine ⟨(o3, true, b + 1), ⟨q1, q2, q3, q5, hbl, q6⟩, Nat.sub_succ_lt_self _ _ hbl, Nat.le_refl _, ?_⟩
              iterate 5
                conv => whnf
                refine ⟨rfl, ?_⟩
              exact wkH_refl _
          · have hnr : ¬ on (reachL (nextF f)) b := by unfold on; rw [List.getElem?_eq_getElem hbr, hre]; simp
            have mB : f.blocks.length ≤ maxLen := Nat.le_trans f.blocks_le (Nat.le_trans hb (by decide))
            conv => whnf
            refine ⟨_, wrap_succ hbl mB, ?_⟩
            conv => whnf
            refine ⟨(o2, mo, b + 1), ⟨j1, j2, j3, j4, hbl, fun h => ?_⟩, Nat.sub_succ_lt_self _ _ hbl, Nat.le_refl _, ?_⟩
            · obtain ⟨rfl, hcl⟩ := j6 h
              refine ⟨rfl, fun b' x hb' hx hon => ?_⟩
              by_cases e : b' = b
              · subst e; exact absurd hon hnr
              · exact hcl b' x (by omega) hx hon
            · iterate 5
                conv => whnf
                refine ⟨rfl, ?_⟩
              exact wkH_refl _
        · have hbl : b = f.blocks.length := by
            have : ¬ b < f.blocks.length := by simpa using hb2
            omega
          conv => whnf
          refine ⟨(o2, mo), ⟨j1, j3, fun h => ?_⟩, ?_, Nat.le_refl _, ?_⟩
          · obtain ⟨rfl, hcl⟩ := j6 h
            exact ⟨j1, fun b x hx hon v hv h0 h1 => hcl b x (by rw [hbl]; exact (List.getElem?_eq_some_iff.1 hx).1) hx hon v hv h0 h1⟩
          · show 2 * offs o2 + (if mo then 1 else 0) < 2 * offs out + (if more then 1 else 0)
            rw [hm, if_pos rfl]
            cases mo with
            | true => have := j4 rfl; rw [if_pos rfl]; omega
            | false => obtain ⟨rfl, _⟩ := j6 rfl; rw [if_neg (by simp)]; omega
          · iterate 4
              conv => whnf
              refine ⟨rfl, ?_⟩
            exact wkH_refl _
    · conv => whnf
      have hc := i4 hm
      refine ⟨rfl, out.map fun b => [.b b], by simp [dropN, mapD], ?_⟩
      have := need_eq hc i3
      rw [← this]
      rfl
end Go.DL
