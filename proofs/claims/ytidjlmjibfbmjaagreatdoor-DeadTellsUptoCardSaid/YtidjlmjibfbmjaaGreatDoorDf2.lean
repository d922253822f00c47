/- Contracts: what a block needs. -/
import Derived.Test.YtidjlmjibfbmjaaGreatDoorDf1
namespace Go.DL
open Go.RowKit

def keptL (out : List Bool) (ps args : List Int) : List Int := (ps.zip args).filterMap fun q => if anyI out [q.1] then some q.2 else none
theorem keptL_step (out : List Bool) (ps args : List Int) (i : Nat) (h1 : i < ps.length) (h2 : i < args.length) :
    keptL out (ps.take (i + 1)) (args.take (i + 1)) = keptL out (ps.take i) (args.take i) ++ if anyI out [ps[i]] then [args[i]] else [] := by
  unfold keptL
  rw [List.take_succ_eq_append_getElem h1, List.take_succ_eq_append_getElem h2, List.zip_append (by simp; omega), List.filterMap_append]
  congr 1
  by_cases h : anyI out [ps[i]] = true
  · simp [h]
  · simp [h]
theorem keptL_len (out : List Bool) (ps args : List Int) : (keptL out ps args).length ≤ args.length := by
  unfold keptL
  refine Nat.le_trans (List.length_filterMap_le _ _) ?_
  rw [List.length_zip]
  omega
theorem keptL_all (out : List Bool) (ps args : List Int) (i : Nat) (h : ¬ (i < ps.length ∧ i < args.length)) : keptL out (ps.take i) (args.take i) = keptL out ps args := by
  unfold keptL
  congr 1
  rw [List.zip_eq_zipWith, List.zip_eq_zipWith, ← List.take_zipWith]
  exact List.take_of_length_le (by rw [List.length_zipWith]; omega)

set_option maxRecDepth 100000 in
theorem con56 (f : Form) (e : Edg) (out : List Bool) (hb : e.args.length ≤ 2 ^ 30) : Con 56 [f.A, e.A, .d (bl out)] (.d (il (keptL out (paramsAt f e.to) e.args))) := by
  refine con_intro Go.Proofs.Tryz.func56 Go.Proofs.Tryz.call56 fun hw wb => ?_
  conv => whnf
  refine brd (fun h => ?_) (fun h => ?_)
  · conv => whnf
    rw [paramsAt, if_neg (by omega)]
    rfl
  · conv => whnf
    refine brd (fun h1 => ?_) (fun h1 => ?_)
    · conv => whnf
      rw [paramsAt, if_neg (by simp at h1; omega)]
      rfl
    · conv => whnf
      have h2 : e.to < f.blocks.length := by simp at h1; omega
      have h0 : 0 ≤ e.to := by omega
      refine ⟨h0, _, row_int h0 h2, rfl, ?_⟩
      have h3 : e.to.toNat < f.blocks.length := by omega
      have hp : paramsAt f e.to = (f.blocks[e.to.toNat]'h3).params := by
        rw [paramsAt, if_pos ⟨h0, h2⟩, List.getElem?_eq_getElem h3]
        rfl
      rw [hp]
      generalize hps : (f.blocks[e.to.toNat]'h3) = blk
      conv => whnf
      refine lift_es 7 1 rfl ?_
      conv => whnf
      refine ⟨rfl, ?_⟩
      conv => whnf
      refine loop_tmpl Θok (S := Nat × Nat × List Int) (fun ⟨i, g, _⟩ => [(7, .vs 2 g 0), (9, .d (.i .i64 i))]) [2, 3, 4, 8]
        (fun ⟨_, g, acc⟩ => [.box (mapD f.row), .box (mapD e.row), .vec g 1 (acc.map fun n => [.d (.i .i64 n)])])
        (fun ⟨i, _, acc⟩ => i ≤ blk.params.length ∧ i ≤ e.args.length ∧ keptL out (blk.params.take i) (e.args.take i) = acc)
        (fun ⟨i, _, _⟩ => e.args.length - i) (0, 0, []) (Nat.le_refl _) (fun ⟨_, _, acc⟩ => ⟨rfl, refsH_cons rfl (refsH_cons rfl (refsH_cons (refsR_map (fun _ => rfl) acc) rfl))⟩) ?_ ?_
      · refine ⟨⟨Nat.zero_le _, Nat.zero_le _, rfl⟩, ?_⟩
        conv => whnf
        refine ⟨rfl, ?_⟩
        conv => whnf
        refine ⟨rfl, ?_⟩
        exact wkH_refl _
      · rintro ⟨i, g, acc⟩ ⟨hI1, hI2, hI3⟩ hH
        conv => whnf
        intro hE
        conv => whnf
        refine brd (fun h => ?_) (fun h => ?_)
        · have hi : i < blk.params.length := by simpa using h
          conv => whnf
          refine brd (fun h' => ?_) (fun h' => ?_)
          · have hi' : i < e.args.length := by simpa using h'
            have hlen := keptL_len out (blk.params.take i) (e.args.take i)
            rw [hI3, List.length_take] at hlen
            have hst := keptL_step out blk.params e.args i hi hi'
            rw [hI3] at hst
            have hmax : e.args.length ≤ maxLen := Nat.le_trans hb (by decide)
            have h55 : Con 55 [.d (bl out), .d (.sl (((blk.params.map fun n => [D.i .i64 n]).take ((i : Int) + 1).toNat).drop ((i : Int)).toNat))] (.d (.b (anyI out [blk.params[i]]))) := by
              rw [slice_one hi]
              exact con55 out [blk.params[i]]
            conv => whnf
            refine ⟨_, rfl, ?_⟩
            rw [wrap64 (by omega) (by simp only [maxLen] at hmax; omega)]
            conv => whnf
            refine ⟨Int.natCast_nonneg _, by omega, by simp; omega, by simp, ?_⟩
            conv => whnf
            refine con_use h55 rfl rfl ?_
            conv => whnf
            refine br (fun h3 => ?_) (fun h3 => ?_)
            · rw [h3, if_pos rfl] at hst
              conv => whnf
              refine ⟨Int.natCast_nonneg i, _, row_at hi', rfl, ?_⟩
              conv => whnf
              refine ⟨rfl, ?_⟩
              conv => whnf
              refine ⟨rfl, rfl, by simp [dropN], by simp [dropN]; omega, ?_⟩
              conv => whnf
              refine ⟨_, wrap_succ hi' hmax, ?_⟩
              conv => whnf
              refine ⟨(i + 1, g + 1, acc ++ [e.args[i]]), ⟨hi, hi', hst⟩, Nat.sub_succ_lt_self _ _ hi', Nat.le_refl _, ?_⟩
              iterate 6
                conv => whnf
                refine ⟨rfl, ?_⟩
              refine ⟨.inr rfl, .inr rfl, .inr ?_, trivial⟩
              simp [dropN, mapD]
            · rw [h3, if_neg (by simp), List.append_nil] at hst
              conv => whnf
              refine ⟨_, wrap_succ hi' hmax, ?_⟩
              conv => whnf
              refine ⟨(i + 1, g, acc), ⟨hi, hi', hst⟩, Nat.sub_succ_lt_self _ _ hi', Nat.le_refl _, ?_⟩
              iterate 6
                conv => whnf
                refine ⟨rfl, ?_⟩
              exact wkH_refl _
          · conv => whnf
            refine ⟨rfl, ?_⟩
            have := keptL_all out blk.params e.args i (fun hh => h' (by simpa using hh.2))
            rw [← this, hI3]
            exact ⟨acc.map fun n => [.i .i64 n], by simp [dropN, mapD], rfl⟩
        · conv => whnf
          refine ⟨rfl, ?_⟩
          have := keptL_all out blk.params e.args i (fun hh => h (by simpa using hh.1))
          rw [← this, hI3]
          exact ⟨acc.map fun n => [.i .i64 n], by simp [dropN, mapD], rfl⟩

def Ins.size (x : Ins) : Nat := x.args.length + x.outs.length + 1
def Edg.size (x : Edg) : Nat := x.args.length + 1
def sumL (l : List Nat) : Nat := l.foldr (· + ·) 0
def Blk.size (b : Blk) : Nat := b.params.length + sumL (b.ins.map Ins.size) + b.fin.args.length + sumL (b.fin.to.map Edg.size) + 2
theorem sumL_get : ∀ {l : List Nat} {i : Nat} {x : Nat}, l[i]? = some x → x ≤ sumL l
  | [], _, _, h => by simp at h
  | y :: ys, 0, x, h => by simp at h; subst h; simp [sumL]
  | y :: ys, i + 1, x, h => by
    have := sumL_get (l := ys) (i := i) (x := x) (by simpa using h)
    simp only [sumL, List.foldr_cons] at this ⊢
    omega
theorem len_le_sumL {α : Type} {f : α → Nat} (h : ∀ a, 1 ≤ f a) : ∀ l : List α, l.length ≤ sumL (l.map f)
  | [] => Nat.zero_le _
  | a :: l => by
    have := len_le_sumL h l
    have := h a
    simp only [List.map_cons, sumL, List.foldr_cons, List.length_cons] at *
    omega
theorem flatMap_take {α β : Type} (f : α → List β) (l : List α) (i : Nat) (h : i < l.length) : (l.take (i + 1)).flatMap f = (l.take i).flatMap f ++ f l[i] := by
  rw [List.take_succ_eq_append_getElem h, List.flatMap_append]
  simp
theorem flatMap_len {α β : Type} (f : α → List β) (g : α → Nat) (h : ∀ a, (f a).length ≤ g a) : ∀ l : List α, (l.flatMap f).length ≤ sumL (l.map g)
  | [] => Nat.zero_le _
  | a :: l => by
    have := flatMap_len f g h l
    have := h a
    simp only [List.flatMap_cons, List.length_append, List.map_cons, sumL, List.foldr_cons] at *
    omega
theorem sumL_take {α : Type} (g : α → Nat) : ∀ (l : List α) (i : Nat), sumL ((l.take i).map g) ≤ sumL (l.map g)
  | [], i => by simp
  | a :: l, 0 => by simp [sumL]
  | a :: l, i + 1 => by
    have := sumL_take g l i
    simp only [List.take_succ_cons, List.map_cons, sumL, List.foldr_cons] at *
    omega

def insW (out : List Bool) (x : Ins) : List Int := if stayP x.kind x.op ∨ anyI out x.outs = true then x.args else []
def edgW (f : Form) (out : List Bool) (e : Edg) : List Int := keptL out (paramsAt f e.to) e.args
def endW (x : Fin') : List Int := (if x.kind = 1 ∨ x.kind = 2 then [x.cond] else []) ++ (if x.kind = 3 then x.args else [])
def wantedL (f : Form) (b : Blk) (out : List Bool) : List Int := b.ins.flatMap (insW out) ++ endW b.fin ++ b.fin.to.flatMap (edgW f out)
theorem insW_len (out : List Bool) (x : Ins) : (insW out x).length ≤ x.size := by
  unfold insW Ins.size
  split
  · omega
  · simp
theorem edgW_len (f : Form) (out : List Bool) (x : Edg) : (edgW f out x).length ≤ x.size := by
  have := keptL_len out (paramsAt f x.to) x.args
  unfold edgW Edg.size
  omega

set_option maxRecDepth 100000 in
theorem con32 (f : Form) (b : Blk) (out : List Bool) (hb : b.size ≤ 2 ^ 30) : ConF 32 [f.A, b.A, .d (bl out)] (.d (il (wantedL f b out))) := by
  have hb1 : b.ins.length ≤ 2 ^ 30 := by
    have := len_le_sumL (f := Ins.size) (fun a => by simp [Ins.size]) b.ins
    unfold Blk.size at hb
    omega
  have hb2 : b.fin.to.length ≤ 2 ^ 30 := by
    have := len_le_sumL (f := Edg.size) (fun a => by simp [Edg.size]) b.fin.to
    unfold Blk.size at hb
    omega
  have m1 : b.ins.length ≤ maxLen := Nat.le_trans hb1 (by decide)
  have m2 : b.fin.to.length ≤ maxLen := Nat.le_trans hb2 (by decide)
  have pre1 : ∀ i, ((b.ins.take i).flatMap (insW out)).length ≤ sumL (b.ins.map Ins.size) := fun i =>
    Nat.le_trans (flatMap_len (insW out) Ins.size (insW_len out) _) (sumL_take _ _ _)
  have pre2 : ∀ i, ((b.fin.to.take i).flatMap (edgW f out)).length ≤ sumL (b.fin.to.map Edg.size) := fun i =>
    Nat.le_trans (flatMap_len (edgW f out) Edg.size (edgW_len f out) _) (sumL_take _ _ _)
  refine conF_intro Go.Proofs.Tryz.func32 Go.Proofs.Tryz.call32 fun hw wb => ?_
  conv => whnf
  refine lift_es 7 1 rfl ?_
  conv => whnf
  refine ⟨rfl, ?_⟩
  conv => whnf
  refine loop_tmpl Θok (S := Nat × Nat × List Int) (fun ⟨i, g, _⟩ => [(7, .vs 2 g 0), (8, .d (.i .i64 i))]) [2, 3, 4]
    (fun ⟨_, g, acc⟩ => [.box (mapD f.row), .box (mapD b.row), .vec g 1 (acc.map fun n => [.d (.i .i64 n)])])
    (fun ⟨i, _, acc⟩ => i ≤ b.ins.length ∧ (b.ins.take i).flatMap (insW out) = acc)
    (fun ⟨i, _, _⟩ => b.ins.length - i) (0, 0, []) (Nat.le_refl _) (fun ⟨_, _, acc⟩ => ⟨rfl, refsH_cons rfl (refsH_cons rfl (refsH_cons (refsR_map (fun _ => rfl) acc) rfl))⟩) ?_ ?_
  · refine ⟨⟨Nat.zero_le _, rfl⟩, ?_⟩
    iterate 2
      conv => whnf
      refine ⟨rfl, ?_⟩
    exact wkH_refl _
  · rintro ⟨i, g, acc⟩ ⟨hI1, hI2⟩ hH
    conv => whnf
    intro hE
    conv => whnf
    refine brd (fun h => ?_) (fun h => ?_)
    · have hi : i < b.ins.length := by simpa using h
      have hst := flatMap_take (insW out) b.ins i hi
      rw [hI2] at hst
      have hl := pre1 (i + 1)
      rw [hst, List.length_append] at hl
      conv => whnf
      refine ⟨Int.natCast_nonneg i, _, row_at hi, rfl, ?_⟩
      conv => whnf
      refine con_use (con54 b.ins[i]) rfl rfl ?_
      conv => whnf
      refine brd (fun h1 => ?_) (fun h1 => ?_)
      · have hw' : insW out b.ins[i] = b.ins[i].args := by rw [insW, if_pos (.inl h1)]
        rw [hw'] at hst hl
        conv => whnf
        refine ⟨Int.natCast_nonneg i, _, row_at hi, rfl, ?_⟩
        conv => whnf
        refine ⟨rfl, rfl, by simp [mapD], by simp [dropN]; unfold Blk.size at hb; omega, ?_⟩
        conv => whnf
        refine ⟨_, wrap_succ hi m1, ?_⟩
        conv => whnf
        refine ⟨(i + 1, g + 1, acc ++ b.ins[i].args), ⟨hi, hst⟩, Nat.sub_succ_lt_self _ _ hi, Nat.le_refl _, ?_⟩
        iterate 5
          conv => whnf
          refine ⟨rfl, ?_⟩
        refine ⟨.inr rfl, .inr rfl, .inr ?_, trivial⟩
        simp [dropN, mapD]
      · conv => whnf
        refine ⟨Int.natCast_nonneg i, _, row_at hi, rfl, ?_⟩
        conv => whnf
        refine con_use (con55 out b.ins[i].outs) rfl rfl ?_
        conv => whnf
        refine br (fun h2 => ?_) (fun h2 => ?_)
        · have hw' : insW out b.ins[i] = b.ins[i].args := by rw [insW, if_pos (.inr h2)]
          rw [hw'] at hst hl
          conv => whnf
          refine ⟨Int.natCast_nonneg i, _, row_at hi, rfl, ?_⟩
          conv => whnf
          refine ⟨rfl, rfl, by simp [mapD], by simp [dropN]; unfold Blk.size at hb; omega, ?_⟩
          conv => whnf
          refine ⟨_, wrap_succ hi m1, ?_⟩
          conv => whnf
          refine ⟨(i + 1, g + 1, acc ++ b.ins[i].args), ⟨hi, hst⟩, Nat.sub_succ_lt_self _ _ hi, Nat.le_refl _, ?_⟩
          iterate 5
            conv => whnf
            refine ⟨rfl, ?_⟩
          refine ⟨.inr rfl, .inr rfl, .inr ?_, trivial⟩
          simp [dropN, mapD]
        · have hw' : insW out b.ins[i] = [] := by rw [insW, if_neg (by simp [h1, h2])]
          rw [hw', List.append_nil] at hst
          conv => whnf
          refine ⟨_, wrap_succ hi m1, ?_⟩
          conv => whnf
          refine ⟨(i + 1, g, acc), ⟨hi, hst⟩, Nat.sub_succ_lt_self _ _ hi, Nat.le_refl _, ?_⟩
          iterate 5
            conv => whnf
            refine ⟨rfl, ?_⟩
          exact wkH_refl _
    · have hall : b.ins.flatMap (insW out) = acc := by
        have : b.ins.take i = b.ins := List.take_of_length_le (by simpa using h)
        rw [← hI2, this]
      conv => whnf
      refine brd (fun k1 => ?_) (fun k1 => ?_)
      · have k3 : b.fin.kind ≠ 3 := by omega
        have hend : endW b.fin = [b.fin.cond] := by simp [endW, k1]
        conv => whnf
        refine ⟨rfl, ?_⟩
        conv => whnf
        refine ⟨rfl, rfl, by simp [dropN], by simp [dropN]; have := pre1 b.ins.length; rw [List.take_length, hall] at this; unfold Blk.size at hb; omega, ?_⟩
        conv => whnf
        refine brd (fun k3 => absurd k3 (by omega)) (fun _ => ?_)
        conv => whnf
        refine loop_tmpl Θok (S := Nat × Nat × List Int) (fun ⟨i, g, _⟩ => [(7, .vs 2 g 0), (9, .d (.i .i64 i))]) [2, 3, 4]
          (fun ⟨_, g, acc⟩ => [.box (mapD f.row), .box (mapD b.row), .vec g 1 (acc.map fun n => [.d (.i .i64 n)]), .gone])
          (fun ⟨i, _, acc2⟩ => i ≤ b.fin.to.length ∧ (acc ++ [b.fin.cond]) ++ (b.fin.to.take i).flatMap (edgW f out) = acc2)
          (fun ⟨i, _, _⟩ => b.fin.to.length - i) (0, g + 1, (acc ++ [b.fin.cond])) (Nat.le_refl _) (fun ⟨_, _, acc⟩ => ⟨rfl, refsH_cons rfl (refsH_cons rfl (refsH_cons (refsR_map (fun _ => rfl) acc) (refsH_cons rfl rfl)))⟩) ?_ ?_
        · refine ⟨⟨Nat.zero_le _, by simp⟩, ?_⟩
          iterate 2
            conv => whnf
            refine ⟨rfl, ?_⟩
          refine ⟨.inr rfl, .inr rfl, .inr ?_, .inl rfl, trivial⟩
          simp [dropN, mapD]
        · rintro ⟨i, g, acc2⟩ ⟨hI1, hI2⟩ hH
          conv => whnf
          intro hE
          conv => whnf
          refine brd (fun h => ?_) (fun h => ?_)
          · have hi : i < b.fin.to.length := by simpa using h
            have hst := flatMap_take (edgW f out) b.fin.to i hi
            have hl := pre2 (i + 1)
            rw [hst, List.length_append] at hl
            have hk : b.fin.to[i].args.length ≤ 2 ^ 30 := by
              have := sumL_get (l := b.fin.to.map Edg.size) (i := i) (x := b.fin.to[i].size) (by simp [hi])
              simp only [Edg.size] at this
              unfold Blk.size at hb
              omega
            have hst2 : (acc ++ [b.fin.cond]) ++ (b.fin.to.take (i + 1)).flatMap (edgW f out) = acc2 ++ edgW f out b.fin.to[i] := by
              rw [hst, ← List.append_assoc, hI2]
            have hl2 : acc2.length + (edgW f out b.fin.to[i]).length ≤ 2 ^ 31 := by
              have := pre1 b.ins.length
              rw [List.take_length, hall] at this
              have hq := congrArg List.length hI2
              simp only [List.length_append, List.length_nil, List.length_cons] at hq
              unfold Blk.size at hb
              omega
            conv => whnf
            refine region_plan Θok rfl (.take 0 (.take 1 (.take 2 (.take 3 (.take 4 (.take 5 (.take 6 (.take 7 (.take 8 (.alt 9 false (.alt 10 true (.take 11 .done) .stop) .stop)))))))))) rfl ?_
            conv => whnf
            refine ⟨Int.natCast_nonneg i, _, row_at hi, rfl, ?_⟩
            conv => whnf
            refine ⟨?_, trivial⟩
            conv => whnf
            refine con_use (con56 f b.fin.to[i] out hk) rfl rfl ?_
            conv => whnf
            refine ⟨⟨[], rfl⟩, ?_⟩
            conv => whnf
            refine ⟨?_, trivial⟩
            conv => whnf
            refine ⟨rfl, rfl, by simp [mapD], by simp [dropN]; unfold edgW at hl2; omega, ?_⟩
            conv => whnf
            refine ⟨_, wrap_succ hi m2, ?_⟩
            conv => whnf
            refine ⟨(i + 1, g + 1, acc2 ++ edgW f out b.fin.to[i]), ⟨hi, hst2⟩, Nat.sub_succ_lt_self _ _ hi, Nat.le_refl _, ?_⟩
            iterate 5
              conv => whnf
              refine ⟨rfl, ?_⟩
            refine ⟨.inr rfl, .inr rfl, .inr ?_, .inl rfl, trivial⟩
            simp [dropN, edgW, mapD]
          · have hall2 : b.fin.to.take i = b.fin.to := List.take_of_length_le (by simpa using h)
            rw [hall2] at hI2
            conv => whnf
            have : wantedL f b out = acc2 := by rw [← hI2, wantedL, hall, hend] <;> simp
            rw [this]
            exact ⟨acc2.map fun n => [.i .i64 n], ownD_flat rfl (by simp [dropN, mapD]) (flatRows_map (fun _ => rfl) _), rfl⟩
      · conv => whnf
        refine brd (fun k2 => ?_) (fun k2 => ?_)
        · have k3 : b.fin.kind ≠ 3 := by omega
          have hend : endW b.fin = [b.fin.cond] := by simp [endW, k2]
          conv => whnf
          refine ⟨rfl, ?_⟩
          conv => whnf
          refine ⟨rfl, rfl, by simp [dropN], by simp [dropN]; have := pre1 b.ins.length; rw [List.take_length, hall] at this; unfold Blk.size at hb; omega, ?_⟩
          conv => whnf
          refine brd (fun k3 => absurd k3 (by omega)) (fun _ => ?_)
          conv => whnf
          refine loop_tmpl Θok (S := Nat × Nat × List Int) (fun ⟨i, g, _⟩ => [(7, .vs 2 g 0), (9, .d (.i .i64 i))]) [2, 3, 4]
            (fun ⟨_, g, acc⟩ => [.box (mapD f.row), .box (mapD b.row), .vec g 1 (acc.map fun n => [.d (.i .i64 n)]), .gone])
            (fun ⟨i, _, acc2⟩ => i ≤ b.fin.to.length ∧ (acc ++ [b.fin.cond]) ++ (b.fin.to.take i).flatMap (edgW f out) = acc2)
            (fun ⟨i, _, _⟩ => b.fin.to.length - i) (0, g + 1, (acc ++ [b.fin.cond])) (Nat.le_refl _) (fun ⟨_, _, acc⟩ => ⟨rfl, refsH_cons rfl (refsH_cons rfl (refsH_cons (refsR_map (fun _ => rfl) acc) (refsH_cons rfl rfl)))⟩) ?_ ?_
          · refine ⟨⟨Nat.zero_le _, by simp⟩, ?_⟩
            iterate 2
              conv => whnf
              refine ⟨rfl, ?_⟩
            refine ⟨.inr rfl, .inr rfl, .inr ?_, .inl rfl, trivial⟩
            simp [dropN, mapD]
          · rintro ⟨i, g, acc2⟩ ⟨hI1, hI2⟩ hH
            conv => whnf
            intro hE
            conv => whnf
            refine brd (fun h => ?_) (fun h => ?_)
            · have hi : i < b.fin.to.length := by simpa using h
              have hst := flatMap_take (edgW f out) b.fin.to i hi
              have hl := pre2 (i + 1)
              rw [hst, List.length_append] at hl
              have hk : b.fin.to[i].args.length ≤ 2 ^ 30 := by
                have := sumL_get (l := b.fin.to.map Edg.size) (i := i) (x := b.fin.to[i].size) (by simp [hi])
                simp only [Edg.size] at this
                unfold Blk.size at hb
                omega
              have hst2 : (acc ++ [b.fin.cond]) ++ (b.fin.to.take (i + 1)).flatMap (edgW f out) = acc2 ++ edgW f out b.fin.to[i] := by
                rw [hst, ← List.append_assoc, hI2]
              have hl2 : acc2.length + (edgW f out b.fin.to[i]).length ≤ 2 ^ 31 := by
                have := pre1 b.ins.length
                rw [List.take_length, hall] at this
                have hq := congrArg List.length hI2
                simp only [List.length_append, List.length_nil, List.length_cons] at hq
                unfold Blk.size at hb
                omega
              conv => whnf
              refine region_plan Θok rfl (.take 0 (.take 1 (.take 2 (.take 3 (.take 4 (.take 5 (.take 6 (.take 7 (.take 8 (.alt 9 false (.alt 10 true (.take 11 .done) .stop) .stop)))))))))) rfl ?_
              conv => whnf
              refine ⟨Int.natCast_nonneg i, _, row_at hi, rfl, ?_⟩
              conv => whnf
              refine ⟨?_, trivial⟩
              conv => whnf
              refine con_use (con56 f b.fin.to[i] out hk) rfl rfl ?_
              conv => whnf
              refine ⟨⟨[], rfl⟩, ?_⟩
              conv => whnf
              refine ⟨?_, trivial⟩
              conv => whnf
              refine ⟨rfl, rfl, by simp [mapD], by simp [dropN]; unfold edgW at hl2; omega, ?_⟩
              conv => whnf
              refine ⟨_, wrap_succ hi m2, ?_⟩
              conv => whnf
              refine ⟨(i + 1, g + 1, acc2 ++ edgW f out b.fin.to[i]), ⟨hi, hst2⟩, Nat.sub_succ_lt_self _ _ hi, Nat.le_refl _, ?_⟩
              iterate 5
                conv => whnf
                refine ⟨rfl, ?_⟩
              refine ⟨.inr rfl, .inr rfl, .inr ?_, .inl rfl, trivial⟩
              simp [dropN, edgW, mapD]
            · have hall2 : b.fin.to.take i = b.fin.to := List.take_of_length_le (by simpa using h)
              rw [hall2] at hI2
              conv => whnf
              have : wantedL f b out = acc2 := by rw [← hI2, wantedL, hall, hend] <;> simp
              rw [this]
              exact ⟨acc2.map fun n => [.i .i64 n], ownD_flat rfl (by simp [dropN, mapD]) (flatRows_map (fun _ => rfl) _), rfl⟩
        · conv => whnf
          refine brd (fun k3 => ?_) (fun k3 => ?_)
          · have hend : endW b.fin = b.fin.args := by simp [endW, k3]
            conv => whnf
            refine ⟨rfl, rfl, by simp [mapD], by simp [dropN]; have := pre1 b.ins.length; rw [List.take_length, hall] at this; unfold Blk.size at hb; omega, ?_⟩
            conv => whnf
            refine loop_tmpl Θok (S := Nat × Nat × List Int) (fun ⟨i, g, _⟩ => [(7, .vs 2 g 0), (9, .d (.i .i64 i))]) [2, 3, 4]
              (fun ⟨_, g, acc⟩ => [.box (mapD f.row), .box (mapD b.row), .vec g 1 (acc.map fun n => [.d (.i .i64 n)])])
              (fun ⟨i, _, acc2⟩ => i ≤ b.fin.to.length ∧ (acc ++ b.fin.args) ++ (b.fin.to.take i).flatMap (edgW f out) = acc2)
              (fun ⟨i, _, _⟩ => b.fin.to.length - i) (0, g + 1, (acc ++ b.fin.args)) (Nat.le_refl _) (fun ⟨_, _, acc⟩ => ⟨rfl, refsH_cons rfl (refsH_cons rfl (refsH_cons (refsR_map (fun _ => rfl) acc) rfl))⟩) ?_ ?_
            · refine ⟨⟨Nat.zero_le _, by simp⟩, ?_⟩
              iterate 2
                conv => whnf
                refine ⟨rfl, ?_⟩
              refine ⟨.inr rfl, .inr rfl, .inr ?_, trivial⟩
              simp [dropN, mapD]
            · rintro ⟨i, g, acc2⟩ ⟨hI1, hI2⟩ hH
              conv => whnf
              intro hE
              conv => whnf
              refine brd (fun h => ?_) (fun h => ?_)
              · have hi : i < b.fin.to.length := by simpa using h
                have hst := flatMap_take (edgW f out) b.fin.to i hi
                have hl := pre2 (i + 1)
                rw [hst, List.length_append] at hl
                have hk : b.fin.to[i].args.length ≤ 2 ^ 30 := by
                  have := sumL_get (l := b.fin.to.map Edg.size) (i := i) (x := b.fin.to[i].size) (by simp [hi])
                  simp only [Edg.size] at this
                  unfold Blk.size at hb
                  omega
                have hst2 : (acc ++ b.fin.args) ++ (b.fin.to.take (i + 1)).flatMap (edgW f out) = acc2 ++ edgW f out b.fin.to[i] := by
                  rw [hst, ← List.append_assoc, hI2]
                have hl2 : acc2.length + (edgW f out b.fin.to[i]).length ≤ 2 ^ 31 := by
                  have := pre1 b.ins.length
                  rw [List.take_length, hall] at this
                  have hq := congrArg List.length hI2
                  simp only [List.length_append, List.length_nil, List.length_cons] at hq
                  unfold Blk.size at hb
                  omega
                conv => whnf
                refine region_plan Θok rfl (.take 0 (.take 1 (.take 2 (.take 3 (.take 4 (.take 5 (.take 6 (.take 7 (.take 8 (.alt 9 false (.alt 10 true (.take 11 .done) .stop) .stop)))))))))) rfl ?_
                conv => whnf
                refine ⟨Int.natCast_nonneg i, _, row_at hi, rfl, ?_⟩
                conv => whnf
                refine ⟨?_, trivial⟩
                conv => whnf
                refine con_use (con56 f b.fin.to[i] out hk) rfl rfl ?_
                conv => whnf
                refine ⟨⟨[], rfl⟩, ?_⟩
                conv => whnf
                refine ⟨?_, trivial⟩
                conv => whnf
                refine ⟨rfl, rfl, by simp [mapD], by simp [dropN]; unfold edgW at hl2; omega, ?_⟩
                conv => whnf
                refine ⟨_, wrap_succ hi m2, ?_⟩
                conv => whnf
                refine ⟨(i + 1, g + 1, acc2 ++ edgW f out b.fin.to[i]), ⟨hi, hst2⟩, Nat.sub_succ_lt_self _ _ hi, Nat.le_refl _, ?_⟩
                iterate 5
                  conv => whnf
                  refine ⟨rfl, ?_⟩
                refine ⟨.inr rfl, .inr rfl, .inr ?_, trivial⟩
                simp [dropN, edgW, mapD]
              · have hall2 : b.fin.to.take i = b.fin.to := List.take_of_length_le (by simpa using h)
                rw [hall2] at hI2
                conv => whnf
                have : wantedL f b out = acc2 := by rw [← hI2, wantedL, hall, hend] <;> simp
                rw [this]
                exact ⟨acc2.map fun n => [.i .i64 n], ownD_flat rfl (by simp [dropN, mapD]) (flatRows_map (fun _ => rfl) _), rfl⟩
          · have hend : endW b.fin = [] := by simp [endW, k1, k2, k3]
            conv => whnf
            refine loop_tmpl Θok (S := Nat × Nat × List Int) (fun ⟨i, g, _⟩ => [(7, .vs 2 g 0), (9, .d (.i .i64 i))]) [2, 3, 4]
              (fun ⟨_, g, acc⟩ => [.box (mapD f.row), .box (mapD b.row), .vec g 1 (acc.map fun n => [.d (.i .i64 n)])])
              (fun ⟨i, _, acc2⟩ => i ≤ b.fin.to.length ∧ acc ++ (b.fin.to.take i).flatMap (edgW f out) = acc2)
              (fun ⟨i, _, _⟩ => b.fin.to.length - i) (0, g, acc) (Nat.le_refl _) (fun ⟨_, _, acc⟩ => ⟨rfl, refsH_cons rfl (refsH_cons rfl (refsH_cons (refsR_map (fun _ => rfl) acc) rfl))⟩) ?_ ?_
            · refine ⟨⟨Nat.zero_le _, by simp⟩, ?_⟩
              iterate 2
                conv => whnf
                refine ⟨rfl, ?_⟩
              exact wkH_refl _
            · rintro ⟨i, g, acc2⟩ ⟨hI1, hI2⟩ hH
              conv => whnf
              intro hE
              conv => whnf
              refine brd (fun h => ?_) (fun h => ?_)
              · have hi : i < b.fin.to.length := by simpa using h
                have hst := flatMap_take (edgW f out) b.fin.to i hi
                have hl := pre2 (i + 1)
                rw [hst, List.length_append] at hl
                have hk : b.fin.to[i].args.length ≤ 2 ^ 30 := by
                  have := sumL_get (l := b.fin.to.map Edg.size) (i := i) (x := b.fin.to[i].size) (by simp [hi])
                  simp only [Edg.size] at this
                  unfold Blk.size at hb
                  omega
                have hst2 : acc ++ (b.fin.to.take (i + 1)).flatMap (edgW f out) = acc2 ++ edgW f out b.fin.to[i] := by
                  rw [hst, ← List.append_assoc, hI2]
                have hl2 : acc2.length + (edgW f out b.fin.to[i]).length ≤ 2 ^ 31 := by
                  have := pre1 b.ins.length
                  rw [List.take_length, hall] at this
                  have hq := congrArg List.length hI2
                  simp only [List.length_append, List.length_nil, List.length_cons] at hq
                  unfold Blk.size at hb
                  omega
                conv => whnf
                refine region_plan Θok rfl (.take 0 (.take 1 (.take 2 (.take 3 (.take 4 (.take 5 (.take 6 (.take 7 (.take 8 (.alt 9 false (.alt 10 true (.take 11 .done) .stop) .stop)))))))))) rfl ?_
                conv => whnf
                refine ⟨Int.natCast_nonneg i, _, row_at hi, rfl, ?_⟩
                conv => whnf
                refine ⟨?_, trivial⟩
                conv => whnf
                refine con_use (con56 f b.fin.to[i] out hk) rfl rfl ?_
                conv => whnf
                refine ⟨⟨[], rfl⟩, ?_⟩
                conv => whnf
                refine ⟨?_, trivial⟩
                conv => whnf
                refine ⟨rfl, rfl, by simp [mapD], by simp [dropN]; unfold edgW at hl2; omega, ?_⟩
                conv => whnf
                refine ⟨_, wrap_succ hi m2, ?_⟩
                conv => whnf
                refine ⟨(i + 1, g + 1, acc2 ++ edgW f out b.fin.to[i]), ⟨hi, hst2⟩, Nat.sub_succ_lt_self _ _ hi, Nat.le_refl _, ?_⟩
                iterate 5
                  conv => whnf
                  refine ⟨rfl, ?_⟩
                refine ⟨.inr rfl, .inr rfl, .inr ?_, trivial⟩
                simp [dropN, edgW, mapD]
              · have hall2 : b.fin.to.take i = b.fin.to := List.take_of_length_le (by simpa using h)
                rw [hall2] at hI2
                conv => whnf
                have : wantedL f b out = acc2 := by rw [← hI2, wantedL, hall, hend] <;> simp
                rw [this]
                exact ⟨acc2.map fun n => [.i .i64 n], ownD_flat rfl (by simp [dropN, mapD]) (flatRows_map (fun _ => rfl) _), rfl⟩

end Go.DL
