/- Contracts: small callers. -/
import Derived.Test.YtidjlmjibfbmjaaGreatDoorDf5
namespace Go.DL
open Go.RowKit
set_option maxRecDepth 100000 in
theorem con12 (f : Form) (hb : f.size ≤ 2 ^ 30) : Con 12 [f.A] (.d (bl (reachL (nextF f)))) := by
  refine con_intro Go.Proofs.Tryz.func12 Go.Proofs.Tryz.call12 fun hw wb => ?_
  conv => whnf
  refine con_use (con24 f hb) rfl rfl ?_
  conv => whnf

/-- one value marked -/
def mark1 (s : List Bool × Bool) (v : Int) : List Bool × Bool := if 0 ≤ v ∧ v < s.1.length ∧ s.1[v.toNat]? = some false then (s.1.set v.toNat true, true) else s
def markL (out : List Bool) (l : List Int) : List Bool × Bool := l.foldl mark1 (out, false)
theorem markL_take (out : List Bool) (l : List Int) (i : Nat) (h : i < l.length) : markL out (l.take (i + 1)) = mark1 (markL out (l.take i)) l[i] := by
  unfold markL
  rw [List.take_succ_eq_append_getElem h, List.foldl_append]
  rfl
theorem mark1_len (s : List Bool × Bool) (v : Int) : (mark1 s v).1.length = s.1.length := by
  unfold mark1
  split <;> simp
theorem markL_len (out : List Bool) : ∀ (l : List Int) (b : Bool), (l.foldl mark1 (out, b)).1.length = out.length := by
  intro l
  have key : ∀ (l : List Int) (s : List Bool × Bool), (l.foldl mark1 s).1.length = s.1.length := by
    intro l
    induction l with
    | nil => intro s; rfl
    | cons v l ih => intro s; rw [List.foldl_cons, ih, mark1_len]
  intro b
  exact key l (out, b)

set_option maxRecDepth 100000 in
theorem mark_ok {wb : World} {fb : List A} (hfb : A.refsL 2 fb = true) (out : List Bool) (l : List Int) (hl : l.length ≤ maxLen) {K : A → List Ob → Prop}
    (hk : K (.tup [.vs 1 0 0, .d (.b (markL out l).2)]) [.box fb, .vec 0 1 ((markL out l).1.map fun b => [.d (.b b)])]) :
    CallOk Go.Proofs.Tryz.prog wb 31 [.vs 1 0 0, .d (il l)] [.box fb, .vec 0 1 (out.map fun b => [.d (.b b)])] K := by
  refine callOk_intro Θok Go.Proofs.Tryz.func31 Go.Proofs.Tryz.call31 ?_
  conv => whnf
  refine loop_tmpl Θok (S := List Bool × Bool × Nat) (fun ⟨_, fr, i⟩ => [(6, .d (.b fr)), (7, .d (.i .i64 i))]) [0, 1]
    (fun ⟨o, _, _⟩ => [.box fb, .vec 0 1 (o.map fun b => [.d (.b b)])])
    (fun ⟨o, fr, i⟩ => i ≤ l.length ∧ markL out (l.take i) = (o, fr)) (fun ⟨_, _, i⟩ => l.length - i) (out, false, 0) (Nat.le_refl _)
    (fun ⟨o, _, _⟩ => ⟨rfl, refsH_cons hfb (refsH_cons (refsR_map (fun _ => rfl) o) rfl)⟩) ?_ ?_
  · refine ⟨⟨Nat.zero_le _, rfl⟩, ?_⟩
    iterate 2
      conv => whnf
      refine ⟨rfl, ?_⟩
    exact wkH_refl _
  · rintro ⟨o, fr, i⟩ ⟨i1, i2⟩ hH
    conv => whnf
    intro hE
    conv => whnf
    refine brd (fun h => ?_) (fun h => ?_)
    · have hi : i < l.length := by simpa using h
      have hst := markL_take out l i hi
      rw [i2] at hst
      conv => whnf
      refine ⟨Int.natCast_nonneg i, _, row_at hi, rfl, ?_⟩
      conv => whnf
      refine brd (fun h1 => ?_) (fun h1 => ?_)
      · conv => whnf
        refine ⟨Int.natCast_nonneg i, _, row_at hi, rfl, ?_⟩
        conv => whnf
        refine ⟨rfl, ?_⟩
        conv => whnf
        refine brd (fun h2 => ?_) (fun h2 => ?_)
        · have h2' : l[i] < o.length := by simpa using h2
          have hv : l[i].toNat < o.length := by omega
          conv => whnf
          refine ⟨Int.natCast_nonneg i, _, row_at hi, rfl, ?_⟩
          conv => whnf
          refine ⟨rfl, rfl, h1, _, rfl, by simpa using hv, ?_⟩
          conv => whnf
          refine ⟨rfl, _, row_nat' (by simp) hv, ?_⟩
          conv => whnf
          refine br (fun h3 => ?_) (fun h3 => ?_)
          · have hm : mark1 (o, fr) l[i] = (o, fr) := by
              unfold mark1
              rw [if_neg]
              rintro ⟨_, _, h4⟩
              simp only at h4
              rw [List.getElem?_eq_getElem hv, h3] at h4
              cases h4
            rw [hm] at hst
            conv => whnf
            refine ⟨_, wrap_succ hi hl, ?_⟩
            conv => whnf
            refine ⟨(o, fr, i + 1), ⟨hi, hst⟩, Nat.sub_succ_lt_self _ _ hi, Nat.le_refl _, ?_⟩
            iterate 4
              conv => whnf
              refine ⟨rfl, ?_⟩
            exact wkH_refl _
          · have hm : mark1 (o, fr) l[i] = (o.set l[i].toNat true, true) := by
              unfold mark1
              rw [if_pos]
              exact ⟨h1, h2', by simp only; rw [List.getElem?_eq_getElem hv, h3]⟩
            rw [hm] at hst
            conv => whnf
            refine ⟨Int.natCast_nonneg i, _, row_at hi, rfl, ?_⟩
            conv => whnf
            refine ⟨rfl, rfl, h1, _, rfl, by simpa using hv, ?_⟩
            conv => whnf
            refine ⟨rfl, ?_⟩
            conv => whnf
            refine ⟨_, wrap_succ hi hl, ?_⟩
            conv => whnf
            refine ⟨(o.set l[i].toNat true, true, i + 1), ⟨hi, hst⟩, Nat.sub_succ_lt_self _ _ hi, Nat.le_refl _, ?_⟩
            iterate 4
              conv => whnf
              refine ⟨rfl, ?_⟩
            refine ⟨.inr rfl, .inr ?_, trivial⟩
            simp [List.map_set]
        · have h2' : ¬ l[i] < o.length := by simpa using h2
          have hm : mark1 (o, fr) l[i] = (o, fr) := by unfold mark1; rw [if_neg (fun hh => h2' hh.2.1)]
          rw [hm] at hst
          conv => whnf
          refine ⟨_, wrap_succ hi hl, ?_⟩
          conv => whnf
          refine ⟨(o, fr, i + 1), ⟨hi, hst⟩, Nat.sub_succ_lt_self _ _ hi, Nat.le_refl _, ?_⟩
          iterate 4
            conv => whnf
            refine ⟨rfl, ?_⟩
          exact wkH_refl _
      · have hm : mark1 (o, fr) l[i] = (o, fr) := by unfold mark1; rw [if_neg (fun hh => h1 hh.1)]
        rw [hm] at hst
        conv => whnf
        refine ⟨_, wrap_succ hi hl, ?_⟩
        conv => whnf
        refine ⟨(o, fr, i + 1), ⟨hi, hst⟩, Nat.sub_succ_lt_self _ _ hi, Nat.le_refl _, ?_⟩
        iterate 4
          conv => whnf
          refine ⟨rfl, ?_⟩
        exact wkH_refl _
    · have hall : l.take i = l := List.take_of_length_le (by simpa using h)
      rw [hall] at i2
      rw [i2] at hk
      conv => whnf
      cases fr with
      | true => exact hk
      | false => exact hk
end Go.DL
