/- Contract: the needed values (program). -/
import Derived.Test.YtidjlmjibfbmjaaGreatDoorDf13
namespace Go.DL
open Go.RowKit
theorem paramsAt_len (f : Form) (to : Int) : (paramsAt f to).length ≤ f.size := by
  unfold paramsAt
  split
  · rename_i h
    have hl : to.toNat < f.blocks.length := by omega
    rw [List.getElem?_eq_getElem hl]
    have := Form.block_le hl
    simp only [Option.map_some, Option.getD_some]
    unfold Blk.size at this
    omega
  · simp
theorem spare_init (n : Nat) : spareL (List.replicate n false) = (List.range n).map fun (v : Nat) => (v : Int) := by
  unfold spareL spareN
  congr 1
  rw [List.length_replicate]
  rw [List.filter_eq_self]
  intro v hv
  rw [List.mem_range] at hv
  simp [hv]
theorem spare_len (out : List Bool) : (spareL out).length = offs out := by
  unfold spareL spareN offs
  rw [List.length_map]
  induction out with
  | nil => rfl
  | cons b out ih =>
    rw [List.length_cons, List.range_succ_eq_map, List.filter_cons, List.filter_map]
    have e : (List.range out.length).filter ((fun v => (b :: out)[v]? == some false) ∘ Nat.succ) = (List.range out.length).filter fun v => out[v]? == some false := by
      apply List.filter_congr
      intro v _
      simp
    rw [e]
    cases b <;> simp [ih]
theorem offs_le {S T : List Bool} (hl : S.length = T.length) (h : Sub S T) : offs T ≤ offs S ∧ (offs S ≤ offs T → S = T) := by
  induction S generalizing T with
  | nil =>
    cases T with
    | nil => exact ⟨Nat.le_refl _, fun _ => rfl⟩
    | cons t T => cases hl
  | cons s S ih =>
    cases T with
    | nil => cases hl
    | cons t T =>
      have hs : Sub S T := fun v hv => by
        have := h (v + 1) (by unfold on at hv ⊢; simpa using hv)
        unfold on at this ⊢
        simpa using this
      obtain ⟨h1, h2⟩ := ih (by simpa using hl) hs
      have h0 : s = true → t = true := fun e => by
        have := h 0 (by unfold on; simp [e])
        unfold on at this
        simpa using this
      unfold offs at *
      rw [List.countP_cons, List.countP_cons]
      cases s with
      | true =>
        rw [h0 rfl]
        simp only [Bool.not_true, Bool.false_eq_true, if_false, Nat.add_zero]
        exact ⟨h1, fun h => by rw [h2 h]⟩
      | false =>
        cases t with
        | true =>
          simp only [Bool.not_true, Bool.not_false, Bool.false_eq_true, if_false, if_true, Nat.add_zero]
          exact ⟨by omega, fun h => by omega⟩
        | false =>
          simp only [Bool.not_false, if_true]
          exact ⟨by omega, fun h => by rw [h2 (by omega)]⟩
def rangeL (n : Nat) : List Int := (List.range n).map fun (v : Nat) => (v : Int)
theorem range_put (i : Nat) : mapPut (mkM (rangeL i)) (i : Int) (.d (.b true)) = mkM (rangeL (i + 1)) := by
  rw [mkM_put]
  · unfold rangeL
    rw [List.range_succ, List.map_append]
    rfl
  · unfold rangeL
    rw [List.mem_map]
    rintro ⟨a, ha, he⟩
    rw [List.mem_range] at ha
    omega
/-- a state on the way through the blocks, begun at out -/
structure Pass (f : Form) (R : List Bool) (out c : List Bool) (i : Nat) : Prop where
  len : c.length = out.length
  sub : Sub out c
  sound : ∀ S, NClosed f R S → Sub out S → Sub c S
  done : c = out → ∀ (b' : Nat) (x : Blk), b' < i → f.blocks[b']? = some x → on R b' → ∀ v ∈ wantedL f x out, 0 ≤ v → v < out.length → on out v.toNat
theorem pass_skip {f : Form} {R out c : List Bool} {i : Nat} (h : Pass f R out c i) (hn : ¬ on R i) : Pass f R out c (i + 1) :=
  ⟨h.len, h.sub, h.sound, fun e b' x hb hx hon => by
    by_cases e' : b' = i
    · subst e'; exact absurd hon hn
    · exact h.done e b' x (by omega) hx hon⟩
theorem pass_next {f : Form} {R out c c' : List Bool} {i : Nat} {b : Blk} (hlen : out.length = f.vals.length) (h : Pass f R out c i) (hb : f.blocks[i]? = some b) (hon : on R i) (hp : Prog f b c c' (fun v => v ∈ wantedL f b c)) : Pass f R out c' (i + 1) := by
  refine ⟨hp.len.trans h.len, fun v hv => hp.sub v (h.sub v hv), fun S hS ho => ?_, fun e => ?_⟩
  · refine hp.sound S (by rw [hS.len, h.len, hlen]) (fun v hv h0 h1 => hS.step i b hb hon v hv h0 h1) (h.sound S hS ho)
  · have ec : c = out := sub_eq h.len (fun v hv => by rw [← e]; exact hp.sub v hv) h.sub
    intro b' x hb' hx hon' v hv h0 h1
    by_cases e' : b' = i
    · subst e'
      rw [hb] at hx
      cases hx
      have := hp.done (by rw [e, ec]) v (by rw [ec]; exact hv) h0 (by rw [ec]; exact h1)
      rw [ec] at this
      exact this
    · exact h.done ec b' x (by omega) hx hon' v hv h0 h1
def nbits (out : List Bool) (n i : Nat) : List (List A) := (out.take i).map (fun b => [.d (.b b)]) ++ List.replicate (n - i) [.d (.b false)]
theorem nbits_refs (m : Nat) (out : List Bool) (n i : Nat) : refsR m (nbits out n i) = true := by
  unfold nbits
  generalize n - i = k
  have h2 : refsR m (List.replicate k [A.d (.b false)]) = true := by
    induction k with
    | zero => rfl
    | succ k ih => rw [List.replicate_succ]; simp [refsR, A.refsL, A.refs, ih]
  induction out.take i with
  | nil => simpa using h2
  | cons l ls ih => simp only [List.map_cons, List.cons_append, refsR, ih]; rfl
theorem nbits_len {out : List Bool} {n i : Nat} (h : out.length = n) (hi : i ≤ n) : (nbits out n i).length = n := by
  unfold nbits
  simp
  omega
theorem nbits_set {out : List Bool} {n i : Nat} (h : out.length = n) (hi : i < n) : (nbits out n i).set i [.d (.b (out[i]'(by omega)))] = nbits out n (i + 1) := by
  unfold nbits
  rw [List.set_append, if_neg (by simp; omega)]
  have : i - ((out.take i).map (fun b => [A.d (.b b)])).length = 0 := by simp; omega
  rw [this]
  have e : n - i = n - (i + 1) + 1 := by omega
  rw [e, List.replicate_succ, List.set_cons_zero, List.take_succ_eq_append_getElem (by omega), List.map_append]
  simp
theorem nclosed_replicate {f : Form} {S : List Bool} {n : Nat} : Sub (List.replicate n false) S := by
  intro v hv
  unfold on at hv
  rw [List.getElem?_replicate] at hv
  split at hv <;> cases hv

set_option maxRecDepth 100000 in
set_option maxHeartbeats 8000000 in
theorem con13 (f : Form) (hb : f.size ≤ 2 ^ 30) : Con 13 [f.A] (.d (bl (neededL f (reachL (nextF f))))) := by
  have hn : f.vals.length ≤ 2 ^ 30 := by unfold Form.size at hb; omega
  have m1 : f.vals.length ≤ maxLen := Nat.le_trans hn (by decide)
  have mB : f.blocks.length ≤ maxLen := Nat.le_trans f.blocks_le (Nat.le_trans hb (by decide))
  have hpl : ∀ to, (paramsAt f to).length ≤ 2 ^ 30 := fun to => Nat.le_trans (paramsAt_len f to) hb
  refine con_intro Go.Proofs.Tryz.func13 Go.Proofs.Tryz.call13 fun hw wb => ?_
  conv => whnf
  refine loop_tmpl Θok (fun i : Nat => [(20, .d (.i .i64 i))]) [1, 3, 18, 19] (fun i => [.box (mapD f.row), .map .i64 (mkM (rangeL i)), .box [.mp 1]]) (fun i => i ≤ f.vals.length) (fun i => f.vals.length - i) 0 (Nat.le_refl _)
    (fun i => ⟨rfl, refsH_cons rfl (refsH_cons (mkM_refs _ _) rfl)⟩) ?_ ?_
  · refine ⟨Nat.zero_le _, ?_⟩
    conv => whnf
    refine ⟨rfl, ?_⟩
    exact wkH_refl _
  · intro i hI hH
    conv => whnf
    intro hE
    conv => whnf
    refine brd (fun h => ?_) (fun h => ?_)
    · have hi : i < f.vals.length := by simpa using h
      conv => whnf
      refine ⟨_, wrap_succ hi m1, ?_⟩
      conv => whnf
      refine ⟨i + 1, hi, Nat.sub_succ_lt_self _ _ hi, Nat.le_refl _, ?_⟩
      repeat
        conv => whnf
        refine ⟨rfl, ?_⟩
      refine ⟨.inr rfl, .inr ?_, .inr rfl, trivial⟩
      rw [range_put]
    · have hi : i = f.vals.length := by
        have : ¬ i < f.vals.length := by simpa using h
        omega
      have hini : mkM (rangeL i) = mkM (spareL (List.replicate f.vals.length false)) := by rw [spare_init, hi]; rfl
      rw [hini]
      clear hini hI hH hE h hi
      conv => whnf
      refine con_use (con11 f hb) rfl rfl ?_
      conv => whnf
      refine loop_tmpl Θok (S := List Bool × Bool) (fun ⟨_, more⟩ => [(7, .d (.b more))]) [1, 3, 5, 6] (fun ⟨out, _⟩ => HH f out [])
        (fun ⟨out, more⟩ => out.length = f.vals.length ∧ (∀ S, NClosed f (reachL (nextF f)) S → ∀ v, on out v → on S v) ∧ (more = false → NClosed f (reachL (nextF f)) out))
        (fun ⟨out, more⟩ => 2 * offs out + (if more then 1 else 0)) (List.replicate f.vals.length false, true) (Nat.le_refl _)
        (fun ⟨out, _⟩ => ⟨rfl, HH_refs rfl⟩) ?_ ?_
      · refine ⟨⟨by simp, fun S _ v hv => nclosed_replicate (f := f) v hv, by simp⟩, ?_⟩
        conv => whnf
        refine ⟨rfl, ?_⟩
        exact wkH_refl _
      · rintro ⟨out, more⟩ ⟨i1, i3, i4⟩ hH
        have hoff : (mkM (spareL out)).length = offs out := by unfold mkM; rw [List.length_map, spare_len]
        have hol : offs out ≤ out.length := List.countP_le_length
        conv => whnf
        intro hE
        conv => whnf
        refine br (fun hm => ?_) (fun hm => ?_)
        · conv => whnf
          refine ⟨by omega, ?_⟩
          conv => whnf
          refine loop_tmpl Θok (S := List Bool × Nat) (fun ⟨_, i⟩ => [(36, .d (.i .i64 i))]) [1, 3, 5, 6, 8, 9, 34, 35] (fun ⟨c, _⟩ => HH f c [])
            (fun ⟨c, i⟩ => i ≤ f.blocks.length ∧ Pass f (reachL (nextF f)) out c i) (fun ⟨_, i⟩ => f.blocks.length - i) (out, 0) (Nat.le_refl _)
            (fun ⟨_, _⟩ => ⟨rfl, HH_refs rfl⟩) ?_ ?_
          · refine ⟨⟨Nat.zero_le _, rfl, fun _ h => h, fun _ _ h => h, fun _ _ _ h => by omega⟩, ?_⟩
            conv => whnf
            refine ⟨rfl, ?_⟩
            exact wkH_refl _
          · rintro ⟨c, i⟩ ⟨j1, j2⟩ hH2
            conv => whnf
            intro hE2
            conv => whnf
            refine brd (fun hb2 => ?_) (fun hb2 => ?_)
            · have hbl : i < f.blocks.length := by simpa using hb2
              have hbr : i < (reachL (nextF f)).length := by simpa [reachL, nextF] using hbl
              have hbk : f.blocks[i]? = some f.blocks[i] := List.getElem?_eq_getElem hbl
              have hbs : f.blocks[i].size ≤ 2 ^ 30 := Nat.le_trans (Form.block_le hbl) hb
              conv => whnf
              refine ⟨Int.natCast_nonneg i, _, row_at hbl, rfl, ?_⟩
              conv => whnf
              refine ⟨Int.natCast_nonneg i, _, row_at hbr, rfl, ?_⟩
              conv => whnf
              refine br (fun hre => ?_) (fun hre => ?_)
              · have hon : on (reachL (nextF f)) i := by unfold on; rw [List.getElem?_eq_getElem hbr, hre]
                have mI : f.blocks[i].ins.length ≤ maxLen := by
                  have := len_le_sumL (f := Ins.size) (fun a => by simp [Ins.size]) f.blocks[i].ins
                  unfold Blk.size at hbs
                  exact Nat.le_trans (by omega : f.blocks[i].ins.length ≤ 2 ^ 30) (by decide)
                conv => whnf
                refine loop_tmpl Θok (S := List Bool × Nat) (fun ⟨_, j⟩ => [(49, .d (.i .i64 j))]) [1, 3, 5, 6, 8, 9, 10, 11, 34, 35, 36, 47, 48] (fun ⟨c1, _⟩ => HH f c1 [.box (mapD f.blocks[i].row)])
                  (fun ⟨c1, j⟩ => j ≤ f.blocks[i].ins.length ∧ Prog f f.blocks[i] c c1 (fun v => v ∈ (f.blocks[i].ins.take j).flatMap (insW c))) (fun ⟨_, j⟩ => f.blocks[i].ins.length - j) (c, 0) (Nat.le_refl _)
                  (fun ⟨_, _⟩ => ⟨rfl, HH_refs rfl⟩) ?_ ?_
                · refine ⟨⟨Nat.zero_le _, rfl, fun _ h => h, fun _ _ _ h => h, fun _ v hv => by simp at hv⟩, ?_⟩
                  conv => whnf
                  refine ⟨rfl, ?_⟩
                  exact wkH_refl _
                · rintro ⟨c1, j⟩ ⟨k1, k2⟩ hH3
                  conv => whnf
                  intro hE3
                  conv => whnf
                  refine brd (fun hj2 => ?_) (fun hj2 => ?_)
                  · have hj : j < f.blocks[i].ins.length := by simpa using hj2
                    have hst := flatMap_take (insW c) f.blocks[i].ins j hj
                    have hsz : f.blocks[i].ins[j].size ≤ 2 ^ 30 := by
                      have := sumL_get (l := f.blocks[i].ins.map Ins.size) (i := j) (x := f.blocks[i].ins[j].size) (by simp [hj])
                      unfold Blk.size at hbs
                      omega
                    have hargs : f.blocks[i].ins[j].args.length ≤ maxLen := Nat.le_trans (by unfold Ins.size at hsz; omega : _ ≤ 2 ^ 30) (by decide)
                    have houts : f.blocks[i].ins[j].outs.length ≤ maxLen := Nat.le_trans (by unfold Ins.size at hsz; omega : _ ≤ 2 ^ 30) (by decide)
                    have hmem : ∀ v ∈ insW c1 f.blocks[i].ins[j], v ∈ wantedL f f.blocks[i] c1 := fun v hv => by
                      unfold wantedL
                      exact List.mem_append_left _ (List.mem_append_left _ (List.mem_flatMap.2 ⟨_, List.getElem_mem hj, hv⟩))
                    have yes : stayP f.blocks[i].ins[j].kind f.blocks[i].ins[j].op ∨ anyI c1 f.blocks[i].ins[j].outs = true →
                        Prog f f.blocks[i] c (markL c1 f.blocks[i].ins[j].args).1 (fun v => v ∈ (f.blocks[i].ins.take (j + 1)).flatMap (insW c)) := by
                      intro hc
                      refine prog_step k2 (fun v hv => hmem v (by unfold insW; rw [if_pos hc]; exact hv)) fun ec v hv => ?_
                      rw [hst, List.mem_append] at hv
                      rcases hv with hv | hv
                      · exact .inl hv
                      · right
                        unfold insW at hv
                        split at hv
                        · exact hv
                        · cases hv
                    have no : ¬ (stayP f.blocks[i].ins[j].kind f.blocks[i].ins[j].op ∨ anyI c1 f.blocks[i].ins[j].outs = true) →
                        Prog f f.blocks[i] c c1 (fun v => v ∈ (f.blocks[i].ins.take (j + 1)).flatMap (insW c)) := by
                      intro hc
                      refine prog_skip k2 fun ec v hv => ?_
                      rw [hst, List.mem_append] at hv
                      rcases hv with hv | hv
                      · exact hv
                      · rw [← ec] at hv
                        unfold insW at hv
                        rw [if_neg hc] at hv
                        cases hv
                    conv => whnf
                    refine ⟨Int.natCast_nonneg j, _, row_at hj, rfl, ?_⟩
                    conv => whnf
                    refine con_use (con29 f.blocks[i].ins[j]) rfl rfl ?_
                    conv => whnf
                    refine brd (fun hs => ?_) (fun hs => ?_)
                    · conv => whnf
                      refine ok25 (f := f) (out := c1) (X := [.box (mapD f.blocks[i].row), .box (mapD f.blocks[i].ins[j].row)]) (k2.len.trans (j2.len.trans i1)) rfl f.blocks[i].ins[j].outs houts (fun hb2 => ?_) (fun hb2 => ?_)
                      · have hq := yes (.inr hb2)
                        conv => whnf
                        refine ok28 (f := f) (out := c1) (X := [.box (mapD f.blocks[i].row), .box (mapD f.blocks[i].ins[j].row)]) rfl f.blocks[i].ins[j].args hargs fun c2 hc2 => ?_
                        rw [← hc2] at hq
                        conv => whnf
                        refine ⟨_, wrap_succ hj mI, ?_⟩
                        conv => whnf
                        refine ⟨(c2, j + 1), ⟨hj, hq⟩, Nat.sub_succ_lt_self _ _ hj, Nat.le_refl _, ?_⟩
                        repeat
                          conv => whnf
                          refine ⟨rfl, ?_⟩
                        exact ⟨.inr rfl, .inr rfl, .inr rfl, .inr rfl, trivial⟩
                      · have hq := no (fun h => h.elim hs (fun h => by rw [hb2] at h; cases h))
                        conv => whnf
                        refine ⟨_, wrap_succ hj mI, ?_⟩
                        conv => whnf
                        refine ⟨(c1, j + 1), ⟨hj, hq⟩, Nat.sub_succ_lt_self _ _ hj, Nat.le_refl _, ?_⟩
                        repeat
                          conv => whnf
                          refine ⟨rfl, ?_⟩
                        exact ⟨.inr rfl, .inr rfl, .inr rfl, .inr rfl, trivial⟩
                    · have hq := yes (.inl (Classical.not_not.1 hs))
                      conv => whnf
                      refine ok28 (f := f) (out := c1) (X := [.box (mapD f.blocks[i].row), .box (mapD f.blocks[i].ins[j].row)]) rfl f.blocks[i].ins[j].args hargs fun c2 hc2 => ?_
                      rw [← hc2] at hq
                      conv => whnf
                      refine ⟨_, wrap_succ hj mI, ?_⟩
                      conv => whnf
                      refine ⟨(c2, j + 1), ⟨hj, hq⟩, Nat.sub_succ_lt_self _ _ hj, Nat.le_refl _, ?_⟩
                      repeat
                        conv => whnf
                        refine ⟨rfl, ?_⟩
                      exact ⟨.inr rfl, .inr rfl, .inr rfl, .inr rfl, trivial⟩
                  · have hall : f.blocks[i].ins.take j = f.blocks[i].ins := List.take_of_length_le (by simpa using hj2)
                    rw [hall] at k2
                    conv => whnf
                    refine ok30 (f := f) (b := f.blocks[i]) hbs (j2.len.trans i1) hpl k2 fun c2 hp => ?_
                    have hq := pass_next i1 j2 hbk hon hp
                    conv => whnf
                    refine ⟨_, wrap_succ hbl mB, ?_⟩
                    conv => whnf
                    refine ⟨(c2, i + 1), ⟨hbl, hq⟩, Nat.sub_succ_lt_self _ _ hbl, Nat.le_refl _, ?_⟩
                    repeat
                      conv => whnf
                      refine ⟨rfl, ?_⟩
                    exact ⟨.inr rfl, .inr rfl, .inr rfl, trivial⟩
              · have hnr : ¬ on (reachL (nextF f)) i := by unfold on; rw [List.getElem?_eq_getElem hbr, hre]; simp
                conv => whnf
                refine ⟨_, wrap_succ hbl mB, ?_⟩
                conv => whnf
                refine ⟨(c, i + 1), ⟨hbl, pass_skip j2 hnr⟩, Nat.sub_succ_lt_self _ _ hbl, Nat.le_refl _, ?_⟩
                repeat
                  conv => whnf
                  refine ⟨rfl, ?_⟩
                exact ⟨.inr rfl, .inr rfl, .inr rfl, trivial⟩
            · have hbl : i = f.blocks.length := by
                have : ¬ i < f.blocks.length := by simpa using hb2
                omega
              have hc : (mkM (spareL c)).length = offs c := by unfold mkM; rw [List.length_map, spare_len]
              have hcl : offs c ≤ c.length := List.countP_le_length
              have hsub := offs_le j2.len.symm j2.sub
              conv => whnf
              refine ⟨by have := j2.len; omega, ?_⟩
              conv => whnf
              have hsnd : ∀ S, NClosed f (reachL (nextF f)) S → ∀ v, on c v → on S v := fun S hS => j2.sound S hS (i3 S hS)
              refine brd (fun hlt => ?_) (fun hlt => ?_)
              · conv => whnf
                refine ⟨(c, true), ⟨j2.len.trans i1, hsnd, by simp⟩, ?_, Nat.le_refl _, ?_⟩
                · rw [hc, hoff] at hlt
                  show 2 * offs c + (if true then 1 else 0) < 2 * offs out + (if more then 1 else 0)
                  rw [hm]
                  omega
                · repeat
                    conv => whnf
                    refine ⟨rfl, ?_⟩
                  exact ⟨.inr rfl, .inr rfl, .inr rfl, trivial⟩
              · rw [hc, hoff] at hlt
                have hco : out = c := hsub.2 (by omega)
                conv => whnf
                refine ⟨(c, false), ⟨j2.len.trans i1, hsnd, fun _ => ?_⟩, ?_, Nat.le_refl _, ?_⟩
                · subst hco
                  exact ⟨i1, fun b x hx hon v hv h0 h1 => j2.done rfl b x (by rw [hbl]; exact (List.getElem?_eq_some_iff.1 hx).1) hx hon v hv h0 h1⟩
                · show 2 * offs c + (if false then 1 else 0) < 2 * offs out + (if more then 1 else 0)
                  rw [hm, hco]
                  simp
                · repeat
                    conv => whnf
                    refine ⟨rfl, ?_⟩
                  exact ⟨.inr rfl, .inr rfl, .inr rfl, trivial⟩
        · have hcl := need_eq (i4 hm) i3
          conv => whnf
          refine ⟨f.vals.length, f.vals.length, by simp, by simp, Nat.le_refl _, by show _ * 1 ≤ _; omega, m1, by decide, ?_⟩
          conv => whnf
          refine ⟨rfl, ?_⟩
          conv => whnf
          refine loop_tmpl Θok (fun i : Nat => [(84, .d (.i .i64 i))]) [1, 3, 14, 83] (fun i => HH f out [.vec 0 1 (nbits out f.vals.length i)]) (fun i => i ≤ f.vals.length) (fun i => f.vals.length - i) 0 (Nat.le_refl _)
            (fun i => ⟨rfl, HH_refs (refsH_cons (nbits_refs _ _ _ _) rfl)⟩) ?_ ?_
          · refine ⟨Nat.zero_le _, ?_⟩
            conv => whnf
            refine ⟨rfl, ?_⟩
            refine ⟨.inr rfl, .inr rfl, .inr rfl, .inr ?_, trivial⟩
            simp [nbits]
          · intro i hI hH2
            conv => whnf
            intro hE2
            conv => whnf
            refine brd (fun h => ?_) (fun h => ?_)
            · have hi : i < f.vals.length := by simpa using h
              have hio : i < out.length := by omega
              have hnl : i < (nbits out f.vals.length i).length := by rw [nbits_len i1 (Nat.le_of_lt hi)]; exact hi
              have hset := nbits_set (n := f.vals.length) i1 hi
              have hgo : mapGet (mkM (spareL out)) (i : Int) = if (i : Int) ∈ spareL out then some (.d (.b true)) else none := mkM_get _ _
              have hmem : (i : Int) ∈ spareL out ↔ out[i] = false := by
                rw [spare_mem]
                simp [hio]
              conv => whnf
              refine ⟨_, hgo, ?_⟩
              cases hbit : out[i] with
              | true =>
                rw [if_neg (by rw [hmem, hbit]; simp)]
                conv => whnf
                refine ⟨rfl, rfl, Int.natCast_nonneg i, i, by simp, hnl, ?_⟩
                conv => whnf
                refine ⟨rfl, ?_⟩
                conv => whnf
                refine ⟨_, wrap_succ hi m1, ?_⟩
                conv => whnf
                refine ⟨i + 1, hi, Nat.sub_succ_lt_self _ _ hi, Nat.le_refl _, ?_⟩
                repeat
                  conv => whnf
                  refine ⟨rfl, ?_⟩
                refine ⟨.inr rfl, .inr rfl, .inr rfl, .inr ?_, trivial⟩
                rw [← hset, hbit]
              | false =>
                rw [if_pos (by rw [hmem, hbit])]
                conv => whnf
                refine ⟨rfl, rfl, Int.natCast_nonneg i, i, by simp, hnl, ?_⟩
                conv => whnf
                refine ⟨rfl, ?_⟩
                conv => whnf
                refine ⟨_, wrap_succ hi m1, ?_⟩
                conv => whnf
                refine ⟨i + 1, hi, Nat.sub_succ_lt_self _ _ hi, Nat.le_refl _, ?_⟩
                repeat
                  conv => whnf
                  refine ⟨rfl, ?_⟩
                refine ⟨.inr rfl, .inr rfl, .inr rfl, .inr ?_, trivial⟩
                rw [← hset, hbit]
            · have hi : i = f.vals.length := by
                have : ¬ i < f.vals.length := by simpa using h
                omega
              conv => whnf
              refine ⟨rfl, out.map fun b => [.b b], ?_, by rw [← hcl]; rfl⟩
              rw [hi]
              unfold nbits
              rw [← i1, Nat.sub_self, List.take_length]
              simp [dropN, mapD]
end Go.DL
