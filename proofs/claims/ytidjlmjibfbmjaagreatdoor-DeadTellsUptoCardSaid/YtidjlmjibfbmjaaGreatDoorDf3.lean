/- Contracts: successors. -/
import Derived.Test.YtidjlmjibfbmjaaGreatDoorDf2
namespace Go.DL
open Go.RowKit

def nl (l : List (List Int)) : D := .sl (l.map fun r => [il r])
def okTo (n : Nat) (e : Edg) : Option Int := if 0 ≤ e.to ∧ e.to < n then some e.to else none
def nextB (n : Nat) (b : Blk) : List Int := b.fin.to.filterMap (okTo n)
def nextF (f : Form) : List (List Int) := f.blocks.map (nextB f.blocks.length)
def Form.size (f : Form) : Nat := f.tp.length + f.tr.length + f.vals.length + sumL (f.blocks.map Blk.size) + 4
theorem Blk.size_pos (b : Blk) : 1 ≤ b.size := by unfold Blk.size; omega
theorem Form.blocks_le (f : Form) : f.blocks.length ≤ f.size := by
  have := len_le_sumL (f := Blk.size) Blk.size_pos f.blocks
  unfold Form.size
  omega
theorem Form.block_le {f : Form} {i : Nat} (h : i < f.blocks.length) : f.blocks[i].size ≤ f.size := by
  have := sumL_get (l := f.blocks.map Blk.size) (i := i) (x := f.blocks[i].size) (by simp [h])
  unfold Form.size
  omega
theorem Blk.to_le (b : Blk) : b.fin.to.length ≤ b.size := by
  have := len_le_sumL (f := Edg.size) (fun a => by simp [Edg.size]) b.fin.to
  unfold Blk.size
  omega
theorem filterMap_take {α β : Type} (f : α → Option β) (l : List α) (i : Nat) (h : i < l.length) : (l.take (i + 1)).filterMap f = (l.take i).filterMap f ++ (f l[i]).toList := by
  rw [List.take_succ_eq_append_getElem h, List.filterMap_append]
  cases hf : f l[i] <;> simp [hf]
theorem map_take_succ {α β : Type} (f : α → β) (l : List α) (i : Nat) (h : i < l.length) : (l.take (i + 1)).map f = (l.take i).map f ++ [f l[i]] := by
  rw [List.take_succ_eq_append_getElem h, List.map_append]
  simp

set_option maxRecDepth 100000 in
theorem con47 (f : Form) (hb : f.size ≤ 2 ^ 30) : Con 47 [f.A] (.d (nl (nextF f))) := by
  have hn : f.blocks.length ≤ 2 ^ 30 := Nat.le_trans f.blocks_le hb
  have m1 : f.blocks.length ≤ maxLen := Nat.le_trans hn (by decide)
  refine con_intro Go.Proofs.Tryz.func47 Go.Proofs.Tryz.call47 fun hw wb => ?_
  conv => whnf
  refine lift_es 3 1 rfl ?_
  conv => whnf
  refine ⟨rfl, ?_⟩
  conv => whnf
  refine loop_tmpl Θok (S := Nat × Nat × List (List Int)) (fun ⟨i, g, _⟩ => [(3, .vs 1 g 0), (4, .d (.i .i64 i))]) [1]
    (fun ⟨_, g, acc⟩ => [.box (mapD f.row), .vec g 1 (acc.map fun r => [.d (il r)])])
    (fun ⟨i, _, acc⟩ => i ≤ f.blocks.length ∧ (f.blocks.take i).map (nextB f.blocks.length) = acc)
    (fun ⟨i, _, _⟩ => f.blocks.length - i) (0, 0, []) (Nat.le_refl _) (fun ⟨_, _, acc⟩ => ⟨rfl, refsH_cons rfl (refsH_cons (refsR_map (fun _ => rfl) acc) rfl)⟩) ?_ ?_
  · refine ⟨⟨Nat.zero_le _, rfl⟩, ?_⟩
    iterate 2
      conv => whnf
      refine ⟨rfl, ?_⟩
    exact wkH_refl _
  · rintro ⟨i, g, acc⟩ ⟨hI1, hI2⟩ hH
    have hal : acc.length = i := by rw [← hI2]; simp; omega
    conv => whnf
    intro hE
    conv => whnf
    refine brd (fun h => ?_) (fun h => ?_)
    · have hi : i < f.blocks.length := by simpa using h
      have hst := map_take_succ (nextB f.blocks.length) f.blocks i hi
      rw [hI2] at hst
      have ht : f.blocks[i].fin.to.length ≤ 2 ^ 30 := Nat.le_trans (Blk.to_le _) (Nat.le_trans (Form.block_le hi) hb)
      have m2 : f.blocks[i].fin.to.length ≤ maxLen := Nat.le_trans ht (by decide)
      conv => whnf
      refine ⟨Int.natCast_nonneg i, _, row_at hi, rfl, ?_⟩
      conv => whnf
      refine lift_es 5 1 rfl ?_
      conv => whnf
      refine ⟨rfl, ?_⟩
      conv => whnf
      refine after_frz 5 ?_
      refine loop_tmpl Θok (S := Nat × Nat × List Int) (fun ⟨j, q, _⟩ => [(5, .vs 2 q 0), (7, .d (.i .i64 j))]) [1, 3, 4, 6]
        (fun ⟨_, q, l⟩ => [.box (mapD f.row), .vec g 1 (acc.map fun r => [.d (il r)]), .vec q 1 (l.map fun n => [.d (.i .i64 n)])])
        (fun ⟨j, _, l⟩ => j ≤ f.blocks[i].fin.to.length ∧ (f.blocks[i].fin.to.take j).filterMap (okTo f.blocks.length) = l)
        (fun ⟨j, _, _⟩ => f.blocks[i].fin.to.length - j) (0, 0, []) (Nat.le_refl _) (fun ⟨_, _, l⟩ => ⟨rfl, refsH_cons rfl (refsH_cons (refsR_map (fun _ => rfl) acc) (refsH_cons (refsR_map (fun _ => rfl) l) rfl))⟩) ?_ ?_
      · refine ⟨⟨Nat.zero_le _, rfl⟩, ?_⟩
        iterate 2
          conv => whnf
          refine ⟨rfl, ?_⟩
        exact wkH_refl _
      · rintro ⟨j, q, l⟩ ⟨hJ1, hJ2⟩ hH2
        conv => whnf
        intro hE2
        conv => whnf
        refine brd (fun h' => ?_) (fun h' => ?_)
        · have hj : j < f.blocks[i].fin.to.length := by simpa using h'
          have hst2 := filterMap_take (okTo f.blocks.length) f.blocks[i].fin.to j hj
          rw [hJ2] at hst2
          have hll : l.length ≤ 2 ^ 30 := by
            have := List.length_filterMap_le (okTo f.blocks.length) (f.blocks[i].fin.to.take j)
            rw [hJ2, List.length_take] at this
            omega
          conv => whnf
          refine region_plan Θok rfl (.take 0 (.take 1 (.take 2 (.take 3 (.take 4 (.take 5 (.take 6 (.take 7 (.take 8 (.take 9 (.take 10 (.take 11 (.take 12 (.take 13 (.take 14 (.take 15 (.take 16 .done))))))))))))))))) rfl ?_
          conv => whnf
          refine ⟨Int.natCast_nonneg j, _, row_at hj, rfl, ?_⟩
          conv => whnf
          refine brd (fun k1 => ?_) (fun k1 => ?_)
          · conv => whnf
            refine ⟨Int.natCast_nonneg j, _, row_at hj, rfl, ?_⟩
            conv => whnf
            refine brd (fun k2 => ?_) (fun k2 => ?_)
            · have k2' : f.blocks[i].fin.to[j].to < f.blocks.length := by simpa using k2
              rw [okTo, if_pos ⟨k1, k2'⟩] at hst2
              conv => whnf
              refine ⟨Int.natCast_nonneg j, _, row_at hj, rfl, ?_⟩
              conv => whnf
              refine ⟨rfl, ?_⟩
              conv => whnf
              refine ⟨rfl, rfl, by simp [dropN], by simp [dropN]; omega, ?_⟩
              conv => whnf
              refine ⟨_, wrap_succ hj m2, ?_⟩
              conv => whnf
              refine ⟨(j + 1, q + 1, l ++ [f.blocks[i].fin.to[j].to]), ⟨hj, hst2⟩, Nat.sub_succ_lt_self _ _ hj, Nat.le_refl _, ?_⟩
              iterate 6
                conv => whnf
                refine ⟨rfl, ?_⟩
              refine ⟨.inr rfl, .inr rfl, .inr ?_, trivial⟩
              simp [dropN]
            · have k2' : ¬ f.blocks[i].fin.to[j].to < f.blocks.length := by simpa using k2
              rw [okTo, if_neg (fun hh => k2' hh.2)] at hst2
              conv => whnf
              refine ⟨_, wrap_succ hj m2, ?_⟩
              conv => whnf
              refine ⟨(j + 1, q, l), ⟨hj, by simpa using hst2⟩, Nat.sub_succ_lt_self _ _ hj, Nat.le_refl _, ?_⟩
              iterate 6
                conv => whnf
                refine ⟨rfl, ?_⟩
              exact wkH_refl _
          · rw [okTo, if_neg (fun hh => k1 hh.1)] at hst2
            conv => whnf
            refine ⟨_, wrap_succ hj m2, ?_⟩
            conv => whnf
            refine ⟨(j + 1, q, l), ⟨hj, by simpa using hst2⟩, Nat.sub_succ_lt_self _ _ hj, Nat.le_refl _, ?_⟩
            iterate 6
              conv => whnf
              refine ⟨rfl, ?_⟩
            exact wkH_refl _
        · have hall : nextB f.blocks.length f.blocks[i] = l := by
            have : f.blocks[i].fin.to.take j = f.blocks[i].fin.to := List.take_of_length_le (by simpa using h')
            rw [← hJ2, this]
            rfl
          rw [hall] at hst
          conv => whnf
          refine ⟨rfl, l.map fun n => [.i .i64 n], by simp [dropN, mapD], ?_⟩
          conv => whnf
          refine ⟨rfl, ?_⟩
          conv => whnf
          refine ⟨rfl, rfl, by simp [dropN], by simp [dropN]; omega, ?_⟩
          conv => whnf
          refine ⟨_, wrap_succ hi m1, ?_⟩
          conv => whnf
          refine ⟨(i + 1, g + 1, acc ++ [l]), ⟨hi, hst⟩, Nat.sub_succ_lt_self _ _ hi, Nat.le_refl _, ?_⟩
          iterate 3
            conv => whnf
            refine ⟨rfl, ?_⟩
          refine ⟨.inr rfl, .inr ?_, trivial⟩
          simp [dropN, il]
    · have hall : f.blocks.take i = f.blocks := List.take_of_length_le (by simpa using h)
      rw [hall] at hI2
      conv => whnf
      refine ⟨rfl, acc.map fun r => [il r], by simp [dropN, mapD], ?_⟩
      rw [nextF, hI2]
      rfl
end Go.DL
