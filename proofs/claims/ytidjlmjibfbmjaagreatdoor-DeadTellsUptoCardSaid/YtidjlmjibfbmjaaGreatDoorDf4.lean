/- Plain law: the least closed set. -/
import Derived.Test.YtidjlmjibfbmjaaGreatDoorDf3
namespace Go.DL

def on (S : List Bool) (v : Nat) : Prop := S[v]? = some true
/-- holds the first block, and with a block its successors -/
structure Closed (nx : List (List Int)) (S : List Bool) : Prop where
  len : S.length = nx.length
  base : 0 < nx.length → on S 0
  next : ∀ (b : Nat) (l : List Int), nx[b]? = some l → on S b → ∀ t ∈ l, on S t.toNat
open Classical in
noncomputable def reachL (nx : List (List Int)) : List Bool := (List.range nx.length).map fun v => decide (∀ S, Closed nx S → on S v)
open Classical in
theorem reach_eq {nx : List (List Int)} {out : List Bool} (h : Closed nx out) (hs : ∀ S, Closed nx S → ∀ v, on out v → on S v) : out = reachL nx := by
  apply List.ext_getElem?
  intro v
  by_cases hv : v < nx.length
  · have hl : v < out.length := by rw [h.len]; exact hv
    rw [List.getElem?_eq_getElem hl]
    simp only [reachL, List.getElem?_map, List.getElem?_range hv, Option.map_some]
    congr 1
    by_cases hb : out[v] = true
    · have : on out v := by unfold on; rw [List.getElem?_eq_getElem hl, hb]
      rw [hb, decide_eq_true fun S hS => hs S hS v this]
    · have hb' : out[v] = false := by simpa using hb
      rw [hb', decide_eq_false]
      intro hall
      have := hall out h
      unfold on at this
      rw [List.getElem?_eq_getElem hl, hb'] at this
      cases this
  · rw [List.getElem?_eq_none (by rw [h.len]; omega), List.getElem?_eq_none (by simp [reachL]; omega)]
def offs (S : List Bool) : Nat := S.countP (fun b => !b)
theorem offs_set {S : List Bool} {v : Nat} (h : S[v]? = some false) : offs (S.set v true) + 1 = offs S := by
  unfold offs
  induction S generalizing v with
  | nil => simp at h
  | cons b S ih =>
    cases v with
    | zero =>
      simp at h
      subst h
      simp
    | succ v =>
      simp only [List.set_cons_succ]
      have := ih (v := v) (by simpa using h)
      rw [List.countP_cons, List.countP_cons]
      omega
theorem on_set {S : List Bool} {v u : Nat} : on (S.set v true) u → u = v ∨ on S u := by
  intro h
  unfold on at h ⊢
  rw [List.getElem?_set] at h
  split at h
  · rename_i e; exact .inl e.symm
  · exact .inr h
theorem on_set_of {S : List Bool} {v u : Nat} (h : on S u) : on (S.set v true) u := by
  unfold on at h ⊢
  rw [List.getElem?_set]
  split
  · rename_i e
    subst e
    rw [if_pos (List.getElem?_eq_some_iff.1 h).1]
  · exact h
end Go.DL
