/- Contracts: comparing lists, the size of a form. -/
import Derived.Test.YtidjlmjibfbmjaaGreatDoorDf9
namespace Go.DL
open Go.RowKit
set_option maxRecDepth 100000 in
theorem con10 (l : List Bool) : Con 10 [.d (bl l), .d (bl l)] (.d (.b true)) := by
  refine con_intro Go.Proofs.Tryz.func10 Go.Proofs.Tryz.call10 fun hw wb => ?_
  have hl : l.length ≤ maxLen := wf_map hw.1
  conv => whnf
  refine brn (fun h => ?_) (fun _ => ?_)
  · exact absurd rfl h
  conv => whnf
  refine loop_tmpl Θok (fun i : Nat => [(5, .d (.i .i64 i))]) [0, 1] (fun _ => []) (fun i => i ≤ l.length) (fun i => l.length - i) 0 (Nat.le_refl _) (fun _ => ⟨rfl, rfl⟩) ?_ ?_
  · refine ⟨Nat.zero_le _, ?_⟩
    conv => whnf
    exact ⟨rfl, trivial⟩
  · intro i hI hH
    conv => whnf
    intro hE
    conv => whnf
    refine brd (fun h => ?_) (fun h => ?_)
    · have hi : i < l.length := by simpa using h
      conv => whnf
      refine region_plan Θok rfl (.take 0 (.take 1 (.take 2 (.take 3 (.take 4 (.take 5 (.take 6 (.take 7 (.take 8 .done))))))))) rfl ?_
      conv => whnf
      refine ⟨Int.natCast_nonneg i, _, row_at hi, rfl, ?_⟩
      conv => whnf
      have go : ∀ t : Bool, l[i] = t → True := fun _ _ => trivial
      refine br (fun h1 => ?_) (fun h1 => ?_)
      all_goals
        conv => whnf
        refine ⟨Int.natCast_nonneg i, _, row_at hi, rfl, ?_⟩
        rw [h1]
        conv => whnf
        refine ⟨_, wrap_succ hi hl, ?_⟩
        conv => whnf
        refine ⟨i + 1, hi, Nat.sub_succ_lt_self _ _ hi, Nat.le_refl _, ?_⟩
        conv => whnf
        exact ⟨rfl, rfl, rfl, trivial⟩
    · conv => whnf

theorem anyc {e : Int} {K : Int → Prop} (h : ∀ c, K c) : ∃ c, e = c ∧ K c := ⟨_, rfl, h _⟩
set_option maxRecDepth 100000 in
set_option maxHeartbeats 2000000 in
theorem few8 (f : Form) (hb : f.size ≤ 2 ^ 30) (wb : World) : CallOk Go.Proofs.Tryz.prog wb 8 [f.A] [] fun r _ => ∃ t : Bool, r = .d (.b t) := by
  have m1 : f.blocks.length ≤ maxLen := Nat.le_trans f.blocks_le (Nat.le_trans hb (by decide))
  refine callOk_intro Θok Go.Proofs.Tryz.func8 Go.Proofs.Tryz.call8 ?_
  conv => whnf
  refine loop_tmpl Θok (S := Nat × Int) (fun ⟨i, n⟩ => [(3, .d (.i .i64 n)), (4, .d (.i .i64 i))]) [1] (fun _ => [.box (mapD f.row)]) (fun ⟨i, _⟩ => i ≤ f.blocks.length) (fun ⟨i, _⟩ => f.blocks.length - i) (0, 0) (Nat.le_refl _) (fun _ => ⟨rfl, rfl⟩) ?_ ?_
  · refine ⟨Nat.zero_le _, ?_⟩
    conv => whnf
    refine ⟨rfl, ?_⟩
    conv => whnf
    refine ⟨rfl, ?_⟩
    exact wkH_refl _
  · rintro ⟨i, n⟩ hI hH
    conv => whnf
    intro hE
    conv => whnf
    have out : ∀ X : Prop, X → X := fun _ h => h
    refine brd (fun h => ?_) (fun h => ?_)
    · have hi : i < f.blocks.length := by simpa using h
      conv => whnf
      refine brd (fun h2 => ?_) (fun h2 => ?_)
      · conv => whnf
        refine brd (fun h3 => ?_) (fun h3 => ?_)
        · conv => whnf
          refine region_plan Θok rfl (.take 0 (.take 1 (.take 2 (.take 3 (.take 4 (.take 5 (.take 6 (.take 7 (.take 8 (.take 9 (.take 10 (.take 11 (.take 12 (.take 13 (.take 14 (.take 15 (.take 16 (.take 17 (.take 18 (.take 19 (.take 20 (.take 21 (.take 22 (.take 23 (.take 24 (.take 25 (.take 26 (.take 27 .done)))))))))))))))))))))))))))) rfl ?_
          conv => whnf
          refine ⟨Int.natCast_nonneg i, _, row_at hi, rfl, ?_⟩
          conv => whnf
          refine anyc fun c1 => ?_
          conv => whnf
          refine ⟨Int.natCast_nonneg i, _, row_at hi, rfl, ?_⟩
          conv => whnf
          refine anyc fun c2 => ?_
          conv => whnf
          refine anyc fun c3 => ?_
          conv => whnf
          refine ⟨Int.natCast_nonneg i, _, row_at hi, rfl, ?_⟩
          conv => whnf
          refine anyc fun c4 => ?_
          conv => whnf
          refine ⟨_, wrap_succ hi m1, ?_⟩
          conv => whnf
          refine ⟨(i + 1, c4), hi, Nat.sub_succ_lt_self _ _ hi, Nat.le_refl _, ?_⟩
          conv => whnf
          refine ⟨rfl, ?_⟩
          conv => whnf
          refine ⟨rfl, ?_⟩
          conv => whnf
          refine ⟨rfl, ?_⟩
          exact wkH_refl _
        · repeat'
            conv => whnf
            first
              | exact ⟨_, rfl⟩
              | refine brd (fun h => ?_) (fun h => ?_)
              | refine anyc fun c => ?_
      · repeat'
          conv => whnf
          first
            | exact ⟨_, rfl⟩
            | refine brd (fun h => ?_) (fun h => ?_)
            | refine anyc fun c => ?_
    · repeat'
        conv => whnf
        first
          | exact ⟨_, rfl⟩
          | refine brd (fun h => ?_) (fun h => ?_)
          | refine anyc fun c => ?_
end Go.DL
