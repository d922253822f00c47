/- Contracts: the successors (program); small ones of the statement. -/
import Derived.Test.YtidjlmjibfbmjaaGreatDoorDf8
import Derived.Test.YtidjlmjibfbmjaaGreatDoorDl23
namespace Go.DL
open Go.RowKit

def nrows (nx : List (List Int)) (i : Nat) : List (List A) := (nx.take i).map (fun l => [.d (il l)]) ++ List.replicate (nx.length - i) [.es]
theorem nrows_len (nx : List (List Int)) (i : Nat) (h : i ≤ nx.length) : (nrows nx i).length = nx.length := by simp [nrows]; omega
theorem nrows_at (nx : List (List Int)) (i : Nat) (h : i < nx.length) : (nrows nx i)[i]? = some [.es] := by
  unfold nrows
  rw [List.getElem?_append_right (by simp; omega), List.getElem?_replicate]
  have : i - ((nx.take i).map (fun l => [A.d (il l)])).length = 0 := by simp; omega
  rw [this, if_pos (by omega)]
theorem nrows_set (nx : List (List Int)) (i : Nat) (h : i < nx.length) : (nrows nx i).set i [.d (il nx[i])] = nrows nx (i + 1) := by
  unfold nrows
  rw [List.set_append, if_neg (by simp; omega)]
  have : i - ((nx.take i).map (fun l => [A.d (il l)])).length = 0 := by simp; omega
  rw [this]
  have e : nx.length - i = nx.length - (i + 1) + 1 := by omega
  rw [e, List.replicate_succ, List.set_cons_zero, List.take_succ_eq_append_getElem h, List.map_append]
  simp
theorem nrows_refs (nx : List (List Int)) (i m : Nat) : refsR m (nrows nx i) = true := by
  unfold nrows
  generalize nx.length - i = k
  have h2 : refsR m (List.replicate k [A.es]) = true := by
    induction k with
    | zero => rfl
    | succ k ih => rw [List.replicate_succ]; simp [refsR, A.refsL, A.refs, ih]
  induction nx.take i with
  | nil => simpa using h2
  | cons l ls ih => simp only [List.map_cons, List.cons_append, refsR, ih]; rfl
theorem refsR_set {m : Nat} {row : List A} (hr : A.refsL m row = true) : ∀ {l : List (List A)} {i : Nat}, refsR m l = true → refsR m (l.set i row) = true
  | [], _, _ => rfl
  | x :: xs, 0, h => by simp only [refsR, Bool.and_eq_true] at h; simp [refsR, hr, h.2]
  | x :: xs, i + 1, h => by simp only [refsR, Bool.and_eq_true] at h; simp [refsR, h.1, refsR_set hr h.2]

set_option maxRecDepth 100000 in
theorem con23 (f : Form) (hb : f.size ≤ 2 ^ 30) : Con 23 [f.A] (.d (nl (nextF f))) := by
  have hn : f.blocks.length ≤ 2 ^ 30 := Nat.le_trans f.blocks_le hb
  have m1 : f.blocks.length ≤ maxLen := Nat.le_trans hn (by decide)
  refine con_intro Go.Proofs.Tryz.func23 Go.Proofs.Tryz.call23 fun hw wb => ?_
  conv => whnf
  refine ⟨f.blocks.length, f.blocks.length, by simp, by simp, Nat.le_refl _, by show _ * 24 ≤ _; omega, m1, by decide, ?_⟩
  conv => whnf
  refine loop_tmpl Θok (S := Nat) (fun i => [(15, .d (.i .i64 i))]) [1, 3, 13, 14]
    (fun i => [.box (mapD f.row), .vec 0 1 (nrows (nextF f) i)])
    (fun i => i ≤ f.blocks.length) (fun i => f.blocks.length - i) 0 (Nat.le_refl _) (fun i => ⟨rfl, refsH_cons rfl (refsH_cons (nrows_refs _ _ _) rfl)⟩) ?_ ?_
  · refine ⟨Nat.zero_le _, ?_⟩
    conv => whnf
    refine ⟨rfl, .inr rfl, .inr ?_, trivial⟩
    simp [nrows, nextF_len]
  · intro i hI hH
    conv => whnf
    intro hE
    conv => whnf
    refine brd (fun h => ?_) (fun h => ?_)
    · have hi : i < f.blocks.length := by simpa using h
      have hin : i < (nextF f).length := by rw [nextF_len]; exact hi
      have ht : f.blocks[i].fin.to.length ≤ 2 ^ 30 := Nat.le_trans (Blk.to_le _) (Nat.le_trans (Form.block_le hi) hb)
      have m2 : f.blocks[i].fin.to.length ≤ maxLen := Nat.le_trans ht (by decide)
      conv => whnf
      refine ⟨Int.natCast_nonneg i, _, row_at hi, rfl, ?_⟩
      conv => whnf
      refine lift_cell 1 i 1 (by decide) rfl (nrows_at _ _ hin) ?_
      refine after_frzC 1 i ?_
      refine loop_tmpl Θok (S := Nat × Nat × List Int) (fun ⟨j, _, _⟩ => [(24, .d (.i .i64 j))]) [1, 3, 4, 5, 13, 14, 15, 22, 23]
        (fun ⟨_, g, l⟩ => [.box (mapD f.row), .vec 0 1 ((nrows (nextF f) i).set i [.vs 3 g 0]), .box (mapD f.blocks[i].row), .vec g 1 (l.map fun n => [.d (.i .i64 n)])])
        (fun ⟨j, _, l⟩ => j ≤ f.blocks[i].fin.to.length ∧ (f.blocks[i].fin.to.take j).filterMap (okTo f.blocks.length) = l)
        (fun ⟨j, _, _⟩ => f.blocks[i].fin.to.length - j) (0, 0, []) (Nat.le_refl _)
        (fun ⟨_, _, l⟩ => ⟨rfl, refsH_cons rfl (refsH_cons (refsR_set rfl (nrows_refs _ _ _)) (refsH_cons rfl (refsH_cons (refsR_map (fun _ => rfl) l) rfl)))⟩) ?_ ?_
      · refine ⟨⟨Nat.zero_le _, rfl⟩, ?_⟩
        conv => whnf
        refine ⟨rfl, ?_⟩
        exact wkH_refl _
      · rintro ⟨j, g, l⟩ ⟨hJ1, hJ2⟩ hH2
        conv => whnf
        intro hE2
        conv => whnf
        refine brd (fun h' => ?_) (fun h' => ?_)
        · have hj : j < f.blocks[i].fin.to.length := by simpa using h'
          have hst2 := filterMap_take (okTo f.blocks.length) f.blocks[i].fin.to j hj
          rw [hJ2] at hst2
          have hll : l.length ≤ 2 ^ 30 := by
            have := List.length_filterMap_le (okTo f.blocks.length) (f.blocks[i].fin.to.take j)
            rw [hJ2, List.length_take] at this
            omega
          conv => whnf
          refine ⟨Int.natCast_nonneg j, _, row_at hj, rfl, ?_⟩
          conv => whnf
          refine brd (fun k1 => ?_) (fun k1 => ?_)
          · conv => whnf
            refine brd (fun k2 => ?_) (fun k2 => ?_)
            · have k2' : f.blocks[i].fin.to[j].to < f.blocks.length := by simpa using k2
              rw [okTo, if_pos ⟨k1, k2'⟩] at hst2
              have hlen : i < ((nrows (nextF f) i).set i [.vs 3 g 0]).length := by rw [List.length_set, nrows_len _ _ (Nat.le_of_lt hin)]; exact hin
              have hat : ((nrows (nextF f) i).set i [.vs 3 g 0])[i]? = some [.vs 3 g 0] := by rw [List.getElem?_set_self (by rw [nrows_len _ _ (Nat.le_of_lt hin)]; exact hin)]
              conv => whnf
              refine region_plan Θok rfl (.take 0 (.take 1 (.take 2 (.take 3 (.take 4 (.take 5 (.take 6 (.take 7 (.alt 8 false (.alt 9 true (.take 10 (.alt 11 true .done .stop)) .stop) .stop))))))))) rfl ?_
              conv => whnf
              refine ⟨rfl, rfl, Int.natCast_nonneg i, i, by simp, hlen, ?_⟩
              conv => whnf
              refine ⟨rfl, _, hat, ?_⟩
              conv => whnf
              refine ⟨?_, trivial⟩
              conv => whnf
              refine ⟨⟨[_], rfl⟩, ?_⟩
              conv => whnf
              refine ⟨?_, trivial⟩
              conv => whnf
              refine ⟨rfl, ?_⟩
              conv => whnf
              refine ⟨rfl, rfl, by simp [dropN], by simp [dropN]; omega, ?_⟩
              conv => whnf
              refine ⟨rfl, rfl, Int.natCast_nonneg i, i, by simp, hlen, ?_⟩
              conv => whnf
              refine ⟨?_, trivial⟩
              conv => whnf
              refine ⟨rfl, ?_⟩
              conv => whnf
              refine ⟨_, wrap_succ hj m2, ?_⟩
              conv => whnf
              refine ⟨(j + 1, g + 1, l ++ [f.blocks[i].fin.to[j].to]), ⟨hj, by rw [hst2]; rfl⟩, Nat.sub_succ_lt_self _ _ hj, Nat.le_refl _, ?_⟩
              iterate 10
                conv => whnf
                refine ⟨rfl, ?_⟩
              refine ⟨.inr rfl, .inr ?_, .inr rfl, .inr ?_, trivial⟩
              · rw [List.set_set]
              · simp [dropN]
            · have k2' : ¬ f.blocks[i].fin.to[j].to < f.blocks.length := by simpa using k2
              rw [okTo, if_neg (fun hh => k2' hh.2)] at hst2
              conv => whnf
              refine ⟨_, wrap_succ hj m2, ?_⟩
              conv => whnf
              refine ⟨(j + 1, g, l), ⟨hj, by simpa using hst2⟩, Nat.sub_succ_lt_self _ _ hj, Nat.le_refl _, ?_⟩
              repeat
                conv => whnf
                refine ⟨rfl, ?_⟩
              exact ⟨.inr rfl, .inr rfl, .inr rfl, .inr rfl, trivial⟩
          · rw [okTo, if_neg (fun hh => k1 hh.1)] at hst2
            conv => whnf
            refine ⟨_, wrap_succ hj m2, ?_⟩
            conv => whnf
            refine ⟨(j + 1, g, l), ⟨hj, by simpa using hst2⟩, Nat.sub_succ_lt_self _ _ hj, Nat.le_refl _, ?_⟩
            repeat
              conv => whnf
              refine ⟨rfl, ?_⟩
            exact ⟨.inr rfl, .inr rfl, .inr rfl, .inr rfl, trivial⟩
        · have hall : nextB f.blocks.length f.blocks[i] = l := by
            have : f.blocks[i].fin.to.take j = f.blocks[i].fin.to := List.take_of_length_le (by simpa using h')
            rw [← hJ2, this]
            rfl
          have hnx : (nextF f)[i] = l := by simp [nextF, hall]
          conv => whnf
          refine ⟨0, 1, _, 3, g, 0, 1, _, l.map fun n => [.i .i64 n], rfl, by rw [List.getElem?_set_self (by rw [nrows_len _ _ (Nat.le_of_lt hin)]; exact hin)], by decide, rfl, by simp [mapD], ?_⟩
          conv => whnf
          refine ⟨_, wrap_succ hi m1, ?_⟩
          conv => whnf
          refine ⟨i + 1, hi, Nat.sub_succ_lt_self _ _ hi, Nat.le_refl _, ?_⟩
          iterate 5
            conv => whnf
            refine ⟨rfl, ?_⟩
          refine ⟨.inr rfl, .inr ?_, trivial⟩
          rw [List.set_set, ← nrows_set _ _ hin, hnx]
          rfl
    · have hall : i = f.blocks.length := by
        have : ¬ i < f.blocks.length := by simpa using h
        omega
      conv => whnf
      refine ⟨rfl, (nextF f).map fun l => [il l], ?_, rfl⟩
      rw [hall]
      unfold nrows
      rw [← nextF_len, Nat.sub_self, List.take_length]
      simp [dropN, mapD]
end Go.DL
