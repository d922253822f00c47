/- Contracts of the small functions. -/
import Derived.Test.YtidjlmjibfbmjaaGreatDoorDl22
namespace Go.DL
open Go.RowKit

theorem leafT {p : Prop} [Decidable p] (h : p) : A.d (.b true) = A.d (.b (decide p)) := by rw [decide_eq_true h]
theorem leafF {p : Prop} [Decidable p] (h : ¬ p) : A.d (.b false) = A.d (.b (decide p)) := by rw [decide_eq_false h]

structure Ins where
  kind : Int
  op : Int
  a : Int
  b : Int
  n : Int
  args : List Int
  outs : List Int
structure Edg where
  to : Int
  args : List Int
structure Fin' where
  kind : Int
  cond : Int
  args : List Int
  to : List Edg
  trap : Int
structure Blk where
  params : List Int
  ins : List Ins
  fin : Fin'
structure Form where
  tp : List Int
  tr : List Int
  vals : List Int
  blocks : List Blk
def Ins.row (x : Ins) : List D := [.i .i64 x.kind, .i .i64 x.op, .i .i64 x.a, .i .i64 x.b, .i .u64 x.n, il x.args, il x.outs]
def Edg.row (x : Edg) : List D := [.i .i64 x.to, il x.args]
def Fin'.row (x : Fin') : List D := [.i .i64 x.kind, .i .i64 x.cond, il x.args, .sl (x.to.map Edg.row), .i .i64 x.trap]
def Blk.row (x : Blk) : List D := il x.params :: .sl (x.ins.map Ins.row) :: x.fin.row
def Form.row (x : Form) : List D := [il x.tp, il x.tr, il x.vals, .sl (x.blocks.map Blk.row)]
def Ins.A (x : Ins) : A := .agg (mapD x.row)
def Edg.A (x : Edg) : A := .agg (mapD x.row)
def Blk.A (x : Blk) : A := .agg (mapD x.row)
def Form.A (x : Form) : A := .agg (mapD x.row)

def divP (op : Int) : Prop := 109 ≤ op ∧ op ≤ 112 ∨ 127 ≤ op ∧ op ≤ 130
instance (op : Int) : Decidable (divP op) := by unfold divP; infer_instance

set_option maxRecDepth 100000 in
theorem con52 (op : Int) : Con 52 [.d (.i .i64 op)] (.d (.b (decide (divP op)))) := by
  refine con_intro Go.Proofs.Tryz.func52 Go.Proofs.Tryz.call52 fun hw wb => ?_
  conv => whnf
  repeat' (refine brd (fun h => ?_) (fun h => ?_) <;> conv => whnf)
  all_goals first
    | (refine leafT (p := divP op) ?_; unfold divP; omega)
    | (refine leafF (p := divP op) ?_; unfold divP; omega)

def paramsAt (f : Form) (to : Int) : List Int := if 0 ≤ to ∧ to < f.blocks.length then (f.blocks[to.toNat]?.map Blk.params).getD [] else []
set_option maxRecDepth 100000 in
theorem con53 (f : Form) (e : Edg) : Con 53 [f.A, e.A] (.d (il (paramsAt f e.to))) := by
  refine con_intro Go.Proofs.Tryz.func53 Go.Proofs.Tryz.call53 fun hw wb => ?_
  conv => whnf
  refine brd (fun h => ?_) (fun h => ?_)
  · conv => whnf
    rw [paramsAt, if_neg (by omega)]
    rfl
  · conv => whnf
    refine brd (fun h1 => ?_) (fun h1 => ?_)
    · conv => whnf
      rw [paramsAt, if_neg (by simp at h1; omega)]
      rfl
    · conv => whnf
      have h2 : e.to < f.blocks.length := by simp at h1; omega
      have h0 : 0 ≤ e.to := by omega
      refine ⟨h0, _, row_int h0 h2, rfl, ?_⟩
      conv => whnf
      have h3 : e.to.toNat < f.blocks.length := by omega
      rw [paramsAt, if_pos ⟨h0, h2⟩, List.getElem?_eq_getElem h3]
      rfl

/-- what must stay whoever uses it -/
def stayP (k op : Int) : Prop := ¬ (k = 0 ∨ k = 1 ∨ k = 2 ∨ k = 3 ∨ k = 5 ∨ k = 6 ∨ k = 9 ∨ k = 11 ∨ k = 15 ∨ k = 16) ∧ (k = 18 → op ≠ 64528) ∧ (k = 4 → divP op)
instance (k op : Int) : Decidable (stayP k op) := by unfold stayP; infer_instance
set_option maxRecDepth 100000 in
theorem con54 (x : Ins) : Con 54 [x.A] (.d (.b (decide (stayP x.kind x.op)))) := by
  refine con_intro Go.Proofs.Tryz.func54 Go.Proofs.Tryz.call54 fun hw wb => ?_
  conv => whnf
  repeat' (first
    | (refine brd (fun h => ?_) (fun h => ?_) <;> conv => whnf)
    | (refine brn (fun h => ?_) (fun h => ?_) <;> conv => whnf))
  all_goals first
    | (refine leafT ?_; unfold stayP divP; omega)
    | (refine leafF ?_; unfold stayP divP; omega)
set_option maxRecDepth 100000 in
theorem con29 (x : Ins) : Con 29 [x.A] (.d (.b (decide (¬ stayP x.kind x.op)))) := by
  refine con_intro Go.Proofs.Tryz.func29 Go.Proofs.Tryz.call29 fun hw wb => ?_
  conv => whnf
  repeat' (first
    | (refine brd (fun h => ?_) (fun h => ?_) <;> conv => whnf)
    | (refine brn (fun h => ?_) (fun h => ?_) <;> conv => whnf)
    | (refine con_use (con52 x.op) rfl rfl ?_; conv => whnf))
  all_goals first
    | (refine leafT ?_; simp only [stayP, divP] at *; omega)
    | (refine leafF ?_; simp only [stayP, divP] at *; omega)

def anyI (out : List Bool) (l : List Int) : Bool := l.any fun v => decide (0 ≤ v) && out.getD v.toNat false
set_option maxRecDepth 100000 in
theorem con55 (out : List Bool) (l : List Int) : Con 55 [.d (bl out), .d (il l)] (.d (.b (anyI out l))) := by
  refine con_intro Go.Proofs.Tryz.func55 Go.Proofs.Tryz.call55 fun hw wb => ?_
  have hl : l.length ≤ maxLen := wf_map hw.2.1
  conv => whnf
  refine loop_tmpl Θok (fun i : Nat => [(5, .d (.i .i64 i))]) [0, 1] (fun _ => []) (fun i => i ≤ l.length ∧ anyI out (l.take i) = false) (fun i => l.length - i) 0 (Nat.le_refl _) (fun _ => ⟨rfl, rfl⟩) ?_ ?_
  · refine ⟨⟨Nat.zero_le _, rfl⟩, ?_⟩
    conv => whnf
    exact ⟨rfl, trivial⟩
  · intro i hI hH
    conv => whnf
    intro hE
    conv => whnf
    refine brd (fun h => ?_) (fun h => ?_)
    · have hi : i < l.length := by simpa using h
      have step : anyI out (l.take (i + 1)) = (decide (0 ≤ l[i]) && out.getD l[i].toNat false) := by
        simp only [anyI] at hI ⊢
        rw [List.take_succ_eq_append_getElem hi, List.any_append, hI.2]
        simp
      conv => whnf
      refine ⟨Int.natCast_nonneg i, _, row_at hi, rfl, ?_⟩
      conv => whnf
      refine brd (fun h1 => ?_) (fun h1 => ?_)
      · conv => whnf
        refine ⟨Int.natCast_nonneg i, _, row_at hi, rfl, ?_⟩
        conv => whnf
        refine brd (fun h2 => ?_) (fun h2 => ?_)
        · conv => whnf
          have h2' : l[i].toNat < out.length := by simp at h2; omega
          refine ⟨Int.natCast_nonneg i, _, row_at hi, rfl, ?_⟩
          conv => whnf
          refine ⟨h1, _, row_int h1 (by simpa using h2), rfl, ?_⟩
          conv => whnf
          refine br (fun h3 => ?_) (fun h3 => ?_)
          · conv => whnf
            have : anyI out (l.take (i + 1)) = true := by rw [step]; simp [h1, h2', h3]
            have : anyI out l = true := by
              simp only [anyI, List.any_eq_true] at this ⊢
              obtain ⟨x, hx, hp⟩ := this
              exact ⟨x, List.mem_of_mem_take hx, hp⟩
            rw [this]
          · conv => whnf
            refine ⟨_, wrap_succ hi hl, ?_⟩
            conv => whnf
            refine ⟨i + 1, ⟨hi, by rw [step]; simp [h2', h3]⟩, by omega, Nat.le_refl _, ?_⟩
            conv => whnf
            exact ⟨rfl, rfl, rfl, trivial⟩
        · conv => whnf
          refine ⟨_, wrap_succ hi hl, ?_⟩
          conv => whnf
          refine ⟨i + 1, ⟨hi, by rw [step]; have : out.length ≤ l[i].toNat := by { simp at h2; omega }; simp [this]⟩, by omega, Nat.le_refl _, ?_⟩
          conv => whnf
          exact ⟨rfl, rfl, rfl, trivial⟩
      · conv => whnf
        refine ⟨_, wrap_succ hi hl, ?_⟩
        conv => whnf
        refine ⟨i + 1, ⟨hi, by rw [step]; simp [h1]⟩, by omega, Nat.le_refl _, ?_⟩
        conv => whnf
        exact ⟨rfl, rfl, rfl, trivial⟩
    · conv => whnf
      have : i = l.length := by simp at h; omega
      rw [this, List.take_length] at hI
      rw [hI.2]

theorem slice_one {α : Type} {f : α → List D} {l : List α} {i : Nat} (h : i < l.length) : ((l.map f).take ((i : Int) + 1).toNat).drop ((i : Int)).toNat = [l[i]].map f := by
  have e : ((i : Int) + 1).toNat = i + 1 := by omega
  rw [e, Int.toNat_natCast, ← List.map_take, ← List.map_drop]
  congr 1
  rw [List.take_succ_eq_append_getElem h, List.drop_append_of_le_length (by simp; omega)]
  simp
end Go.DL
