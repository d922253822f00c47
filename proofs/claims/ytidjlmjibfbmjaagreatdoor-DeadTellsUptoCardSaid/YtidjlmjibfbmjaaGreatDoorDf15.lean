/- Contract: the statement DeadTells. -/
import Derived.Test.YtidjlmjibfbmjaaGreatDoorDf14
import Derived.Test.YtidjlmjibfbmjaaGreatDoorXa6
namespace Go.DL
open Go.RowKit
set_option maxRecDepth 100000 in
theorem con3 (f : Form) (hb : f.size ≤ 2 ^ 30) : Con 3 [f.A] (.d (.b true)) := by
  refine con_intro Go.Proofs.Tryz.func3 Go.Proofs.Tryz.call3 fun hw wb => ?_
  conv => whnf
  refine callOk_pure (fun wb' => (few8 f hb wb').mono fun r H' hr => ?_) rfl
  obtain ⟨t, rfl⟩ := hr
  refine ⟨rfl, ?_⟩
  cases t with
  | false =>
    conv => whnf
    refine con_use con9 rfl rfl ?_
    conv => whnf
  | true =>
    conv => whnf
    refine region_plan Θok rfl (.take 0 (.take 2 (.alt 1 false (.alt 3 false (.alt 4 false (.take 5 (.take 6 (.take 8 (.alt 7 false (.alt 9 false (.alt 10 false (.take 11 (.take 12 (.alt 13 false (.take 14 (.take 15 .done)) .stop))) .stop) .stop) .stop)))) .stop) .stop) .stop))) rfl ?_
    conv => whnf
    refine ⟨?_, trivial⟩
    conv => whnf
    refine con_use (con11 f hb) rfl rfl ?_
    conv => whnf
    refine ⟨⟨[], rfl⟩, ?_⟩
    conv => whnf
    refine ⟨?_, trivial⟩
    conv => whnf
    refine con_use (con12 f hb) rfl rfl ?_
    conv => whnf
    refine ⟨⟨[], rfl⟩, ?_⟩
    conv => whnf
    refine ⟨?_, trivial⟩
    conv => whnf
    refine con_use (con10 _) rfl rfl ?_
    conv => whnf
    refine ⟨⟨[], rfl⟩, ?_⟩
    conv => whnf
    refine ⟨?_, trivial⟩
    conv => whnf
    refine con_use (con13 f hb) rfl rfl ?_
    conv => whnf
    refine ⟨⟨[], rfl⟩, ?_⟩
    conv => whnf
    refine ⟨?_, trivial⟩
    conv => whnf
    refine con_use (con14 f hb) rfl rfl ?_
    conv => whnf
    refine ⟨⟨[], rfl⟩, ?_⟩
    conv => whnf
    refine ⟨?_, trivial⟩
    conv => whnf
    refine con_use (con10 _) rfl rfl ?_
    conv => whnf
    refine ⟨⟨[], rfl⟩, ?_⟩
    conv => whnf
    refine ⟨?_, trivial⟩
    conv => whnf
    refine con_use con9 rfl rfl ?_
    conv => whnf
    refine ⟨⟨[], rfl⟩, ?_⟩
    conv => whnf
end Go.DL
