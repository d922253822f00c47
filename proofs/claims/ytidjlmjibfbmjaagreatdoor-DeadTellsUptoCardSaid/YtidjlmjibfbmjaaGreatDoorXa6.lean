/- The chapter's examples hold: the run, by the kernel. -/
import Derived.Test.YtidjlmjibfbmjaaGreatDoorXa5
namespace Go.DL
namespace X
set_option maxRecDepth 100000
theorem run9 : callX tab Θ9 cls 200 9 [] [] (fun r _ => isB true r) = true := by kernel_rfl
end X
theorem con9 : Con 9 [] (.d (.b true)) := by
  intro wb
  refine (X.run_out wb X.run9).mono fun r H' h => ?_
  cases r with
  | d x =>
    cases x with
    | b t =>
      simp only [X.isB, X.beqB_eq] at h
      have : t = true := by simpa using h
      rw [this]
    | _ => simp [X.isB] at h
  | _ => simp [X.isB] at h
end Go.DL
