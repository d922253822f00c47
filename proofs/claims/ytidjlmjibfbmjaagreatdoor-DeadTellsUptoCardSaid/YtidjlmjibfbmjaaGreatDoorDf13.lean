/- Contract: what a block's end needs (program). -/
import Derived.Test.YtidjlmjibfbmjaaGreatDoorDf12
namespace Go.DL
open Go.RowKit
/-- closed at one block -/
def BC (f : Form) (b : Blk) (S : List Bool) : Prop := ∀ v ∈ wantedL f b S, 0 ≤ v → v < S.length → on S v.toNat
/-- a state on the way through block b, begun at out; what W names is on if nothing has changed -/
structure Prog (f : Form) (b : Blk) (out cur : List Bool) (W : Int → Prop) : Prop where
  len : cur.length = out.length
  sub : Sub out cur
  sound : ∀ S : List Bool, S.length = out.length → BC f b S → Sub out S → Sub cur S
  done : cur = out → ∀ v, W v → 0 ≤ v → v < out.length → on out v.toNat
theorem sub_eq {S T : List Bool} (hl : S.length = T.length) (h1 : Sub S T) (h2 : Sub T S) : S = T := by
  apply List.ext_getElem hl
  intro i h1' h2'
  cases hs : S[i] with
  | true =>
    have := h1 i (by unfold on; rw [List.getElem?_eq_getElem h1', hs])
    unfold on at this
    rw [List.getElem?_eq_getElem h2'] at this
    cases ht : T[i] with
    | true => rfl
    | false => rw [ht] at this; cases this
  | false =>
    cases ht : T[i] with
    | false => rfl
    | true =>
      have := h2 i (by unfold on; rw [List.getElem?_eq_getElem h2', ht])
      unfold on at this
      rw [List.getElem?_eq_getElem h1', hs] at this
      cases this
theorem prog_skip {f : Form} {b : Blk} {out cur : List Bool} {W W' : Int → Prop} (h : Prog f b out cur W) (hW : cur = out → ∀ v, W' v → W v) : Prog f b out cur W' :=
  ⟨h.len, h.sub, h.sound, fun e v hv => h.done e v (hW e v hv)⟩
theorem prog_step {f : Form} {b : Blk} {out cur : List Bool} {W W' : Int → Prop} {l : List Int} (h : Prog f b out cur W) (hl : ∀ v ∈ l, v ∈ wantedL f b cur) (hW : cur = out → ∀ v, W' v → W v ∨ v ∈ l) :
    Prog f b out (markL cur l).1 W' := by
  have e1 : (markL cur l).1.length = cur.length := markL_len cur l false
  have e2 : Sub cur (markL cur l).1 := mark_sub l (cur, false)
  refine ⟨e1.trans h.len, fun v hv => e2 v (h.sub v hv), fun S hS hB ho v hv => ?_, fun e v hv h0 h1 => ?_⟩
  · have hc := h.sound S hS hB ho
    rcases mark_sound l (cur, false) v hv with hv | ⟨x, hx, h0, h1, rfl⟩
    · exact hc v hv
    · exact hB x (wantedL_mono hc (hl x hx)) h0 (by rw [hS, ← h.len]; exact h1)
  · have ec : cur = out := sub_eq h.len (fun v hv => by rw [← e]; exact e2 v hv) h.sub
    rcases hW ec v hv with hv | hv
    · exact h.done ec v hv h0 h1
    · have := mark_all l (cur, false) v hv h0 (by simp only; rw [h.len]; exact h1)
      rw [← e]
      exact this
theorem keptL_get {out : List Bool} {ps args : List Int} {i : Nat} (h1 : i < ps.length) (h2 : i < args.length) (ha : anyI out [ps[i]] = true) : args[i] ∈ keptL out ps args := by
  unfold keptL
  refine List.mem_filterMap.2 ⟨(ps[i], args[i]), ?_, by simp [ha]⟩
  rw [List.mem_iff_getElem?]
  exact ⟨i, by rw [List.getElem?_zip_eq_some]; exact ⟨List.getElem?_eq_getElem h1, List.getElem?_eq_getElem h2⟩⟩
theorem in_edge {f : Form} {b : Blk} {cur : List Bool} {e : Edg} (he : e ∈ b.fin.to) {v : Int} (hv : v ∈ edgW f cur e) : v ∈ wantedL f b cur := by
  unfold wantedL
  exact List.mem_append_right _ (List.mem_flatMap.2 ⟨e, he, hv⟩)
theorem in_end {f : Form} {b : Blk} {cur : List Bool} {v : Int} (hv : v ∈ endW b.fin) : v ∈ wantedL f b cur := by
  unfold wantedL
  exact List.mem_append_left _ (List.mem_append_right _ hv)
def Fin'.A (x : Fin') : A := .agg (mapD x.row)
def fnSome : A := .fn 25 [] [.ptr 0 0, .ptr 2 0]
def fnNeed : A := .fn 28 [] [.ptr 2 0]
def insAll (b : Blk) (out : List Bool) (v : Int) : Prop := v ∈ b.ins.flatMap (insW out)
def edgN (f : Form) (b : Blk) (out : List Bool) (i : Nat) (v : Int) : Prop := v ∈ b.ins.flatMap (insW out) ++ endW b.fin ++ (b.fin.to.take i).flatMap (edgW f out)
theorem add_gone {P : Program} {wb : World} {c : Code} {env : List A} {H : List Ob} {Q : Ex → List A → List Ob → Prop} (h : TriS P wb c env (H ++ [.gone]) Q) : TriS P wb c env H Q := by
  refine ⟨fun G ρ a w hS hd hE => ?_⟩
  have hs := step_push (w' := w) hS ⟨0, 0, 0⟩ .gone rfl rfl rfl (Nat.le_refl _) (fun _ _ => rfl) (fun ho => ho.elim)
  have hS' := sim_push (w' := w) hS ⟨0, 0, 0⟩ .gone rfl rfl rfl (Nat.le_refl _) (fun _ _ => rfl) (fun ho => ho.elim) trivial
  exact wp_mono (h.out G _ a w hS' hd (hs.rvs hS.len hE)) fun _ _ _ hp => Post.after (G := G) hs hp
theorem endW_if {b : Blk} (h : b.fin.kind = 1 ∨ b.fin.kind = 2) : endW b.fin = [b.fin.cond] := by
  unfold endW
  rw [if_pos h, if_neg (by omega)]
  rfl
theorem endW_ret {b : Blk} (h : b.fin.kind = 3) : endW b.fin = b.fin.args := by
  unfold endW
  rw [if_neg (by omega), if_pos h]
  rfl
theorem endW_none {b : Blk} (h1 : ¬ b.fin.kind = 1) (h2 : ¬ b.fin.kind = 2) (h3 : ¬ b.fin.kind = 3) : endW b.fin = [] := by
  unfold endW
  rw [if_neg (by omega), if_neg h3]
  rfl
theorem prog_end {f : Form} {b : Blk} {out cur : List Bool} {l : List Int} (hp : Prog f b out cur (insAll b out)) (he : endW b.fin = l) : Prog f b out (markL cur l).1 (edgN f b out 0) := by
  refine prog_step hp (fun v hv => in_end (by rw [he]; exact hv)) fun _ v hv => ?_
  unfold edgN at hv
  unfold insAll
  simp only [List.take_zero, List.flatMap_nil, List.append_nil, List.mem_append] at hv
  rw [he] at hv
  exact hv
def parN (f : Form) (b : Blk) (out : List Bool) (i k : Nat) (e : Edg) (v : Int) : Prop := edgN f b out i v ∨ v ∈ keptL out ((paramsAt f e.to).take k) (e.args.take k)
theorem par_zero {f : Form} {b : Blk} {out : List Bool} {i : Nat} {e : Edg} {v : Int} (h : parN f b out i 0 e v) : edgN f b out i v := by
  rcases h with h | h
  · exact h
  · simp [keptL] at h
theorem edg_all {f : Form} {b : Blk} {out : List Bool} {v : Int} (h : v ∈ wantedL f b out) : edgN f b out b.fin.to.length v := by
  unfold edgN
  rw [List.take_length]
  exact h
theorem edg_next {f : Form} {b : Blk} {out : List Bool} {i : Nat} (hi : i < b.fin.to.length) {v : Int} (h : edgN f b out (i + 1) v) {k : Nat} (hk : ¬ k < (paramsAt f (b.fin.to[i]).to).length) : parN f b out i k b.fin.to[i] v := by
  unfold edgN at h
  rw [flatMap_take _ _ _ hi, ← List.append_assoc, List.mem_append] at h
  rcases h with h | h
  · exact .inl h
  · right
    rw [keptL_all _ _ _ _ (fun hh => hk hh.1)]
    exact h
section
variable {wb : World} {f : Form} {K : A → List Ob → Prop}
set_option maxRecDepth 100000 in
set_option maxHeartbeats 8000000 in
theorem ok30 {b : Blk} {out cur : List Bool} (hb : b.size ≤ 2 ^ 30) (hlen : out.length = f.vals.length) (hpl : ∀ to, (paramsAt f to).length ≤ 2 ^ 30) (hp : Prog f b out cur (insAll b out))
    (hk : ∀ cur', Prog f b out cur' (fun v => v ∈ wantedL f b out) → K (.tup []) (HH f cur' [.box (mapD b.row), .box (mapD f.row), .box (mapD b.fin.row), .gone])) :
    CallOk Go.Proofs.Tryz.prog wb 30 [f.A, b.fin.A, fnSome, fnNeed] (HH f cur [.box (mapD b.row)]) K := by
  refine callOk_intro Θok Go.Proofs.Tryz.func30 Go.Proofs.Tryz.call30 ?_
  conv => whnf
  have ha : b.fin.args.length ≤ maxLen := by
    have : b.fin.args.length ≤ 2 ^ 30 := by unfold Blk.size at hb; omega
    exact Nat.le_trans this (by decide)
  have m2 : b.fin.to.length ≤ maxLen := Nat.le_trans (Blk.to_le b) (Nat.le_trans hb (by decide))
  have one : ∀ x : Int, [x].length ≤ maxLen := fun _ => (by decide : 1 ≤ maxLen)
  refine brd (fun k1 => ?_) (fun k1 => ?_)
  rotate_left
  · conv => whnf
    refine brd (fun k2 => ?_) (fun k2 => ?_)
    rotate_left
    · conv => whnf
      refine brd (fun k3 => ?_) (fun k3 => ?_)
      · conv => whnf
        refine ok28 (f := f) (out := cur) (X := [.box (mapD b.row), .box (mapD f.row), .box (mapD b.fin.row)]) rfl b.fin.args ha fun c0 hc2 => ?_
        have hp0 := prog_end hp (endW_ret k3)
        rw [← hc2] at hp0
        conv => whnf
        refine add_gone ?_
        clear hp
        refine loop_tmpl Θok (S := List Bool × Nat) (fun ⟨_, i⟩ => [(31, .d (.i .i64 i))]) [2, 3, 4, 29, 30]
          (fun ⟨c, _⟩ => HH f c [.box (mapD b.row), .box (mapD f.row), .box (mapD b.fin.row), .gone])
          (fun ⟨c, i⟩ => i ≤ b.fin.to.length ∧ Prog f b out c (edgN f b out i)) (fun ⟨_, i⟩ => b.fin.to.length - i) (c0, 0) (Nat.le_refl _)
          (fun ⟨_, _⟩ => ⟨rfl, HH_refs rfl⟩) ?_ ?_
        · refine ⟨⟨Nat.zero_le _, hp0⟩, ?_⟩
          conv => whnf
          refine ⟨rfl, ?_⟩
          exact wkH_refl _
        · rintro ⟨c, i⟩ ⟨hI, hP⟩ hH
          conv => whnf
          intro hE
          conv => whnf
          refine brd (fun h => ?_) (fun h => ?_)
          · have hi : i < b.fin.to.length := by simpa using h
            have hpa : b.fin.to[i].args.length ≤ maxLen := by
              have := sumL_get (l := b.fin.to.map Edg.size) (i := i) (x := b.fin.to[i].size) (by simp [hi])
              simp only [Edg.size] at this
              have : b.fin.to[i].args.length ≤ 2 ^ 30 := by unfold Blk.size at hb; omega
              exact Nat.le_trans this (by decide)
            have hpm : (paramsAt f (b.fin.to[i]).to).length ≤ maxLen := by
              have := hpl (b.fin.to[i]).to
              exact Nat.le_trans this (by decide)
            conv => whnf
            refine ⟨Int.natCast_nonneg i, _, row_at hi, rfl, ?_⟩
            conv => whnf
            refine con_use (con53 f b.fin.to[i]) rfl rfl ?_
            conv => whnf
            refine loop_tmpl Θok (S := List Bool × Nat) (fun ⟨_, k⟩ => [(39, .d (.i .i64 k))]) [2, 3, 4, 9, 29, 30, 31, 37, 38]
              (fun ⟨c, _⟩ => HH f c [.box (mapD b.row), .box (mapD f.row), .box (mapD b.fin.row), .gone, .box (mapD b.fin.to[i].row)])
              (fun ⟨c, k⟩ => k ≤ (paramsAt f (b.fin.to[i]).to).length ∧ Prog f b out c (parN f b out i k b.fin.to[i])) (fun ⟨_, k⟩ => (paramsAt f (b.fin.to[i]).to).length - k) (c, 0) (Nat.le_refl _)
              (fun ⟨_, _⟩ => ⟨rfl, HH_refs rfl⟩) ?_ ?_
            · refine ⟨⟨Nat.zero_le _, prog_skip hP fun _ v hv => par_zero hv⟩, ?_⟩
              conv => whnf
              refine ⟨rfl, ?_⟩
              exact wkH_refl _
            · rintro ⟨c1, k⟩ ⟨hK, hQ⟩ hH2
              conv => whnf
              intro hE2
              conv => whnf
              refine brd (fun h' => ?_) (fun h' => ?_)
              · have hkp : k < (paramsAt f (b.fin.to[i]).to).length := by simpa using h'
                conv => whnf
                refine ⟨Int.natCast_nonneg k, _, row_at hkp, rfl, ?_⟩
                conv => whnf
                refine brd (fun h2 => ?_) (fun h2 => ?_)
                · have hka : k < b.fin.to[i].args.length := by simpa using h2
                  have hst := keptL_step out (paramsAt f (b.fin.to[i]).to) b.fin.to[i].args k hkp hka
                  conv => whnf
                  refine callOk_give Go.Proofs.Tryz.call25 [[.i .i64 (paramsAt f (b.fin.to[i]).to)[k]]] (HH f c1 [.box (mapD b.row), .box (mapD f.row), .box (mapD b.fin.row), .gone, .box (mapD b.fin.to[i].row), .gone]) rfl rfl rfl rfl ?_
                  refine ok25 (f := f) (out := c1) (X := [.box (mapD b.row), .box (mapD f.row), .box (mapD b.fin.row), .gone, .box (mapD b.fin.to[i].row), .gone]) (hQ.len.trans hlen) rfl [(paramsAt f (b.fin.to[i]).to)[k]] (one _) (fun hb2 => ?_) (fun hb2 => ?_)
                  · conv => whnf
                    refine ⟨Int.natCast_nonneg k, _, row_at hka, rfl, ?_⟩
                    conv => whnf
                    refine callOk_give Go.Proofs.Tryz.call28 [[.i .i64 b.fin.to[i].args[k]]] (HH f c1 [.box (mapD b.row), .box (mapD f.row), .box (mapD b.fin.row), .gone, .box (mapD b.fin.to[i].row), .gone, .gone]) rfl rfl rfl rfl ?_
                    refine ok28 (f := f) (out := c1) (X := [.box (mapD b.row), .box (mapD f.row), .box (mapD b.fin.row), .gone, .box (mapD b.fin.to[i].row), .gone, .gone]) rfl [b.fin.to[i].args[k]] (one _) fun c2 hc2 => ?_
                    have hQ2 : Prog f b out (markL c1 [b.fin.to[i].args[k]]).1 (parN f b out i (k + 1) b.fin.to[i]) := by
                      refine prog_step hQ (fun v hv => ?_) fun ec v hv => ?_
                      · rw [List.mem_singleton] at hv
                        rw [hv]
                        exact in_edge (List.getElem_mem hi) (keptL_get hkp hka hb2)
                      · rcases hv with hv | hv
                        · exact .inl (.inl hv)
                        · rw [hst, List.mem_append] at hv
                          rcases hv with hv | hv
                          · exact .inl (.inr hv)
                          · split at hv
                            · exact .inr hv
                            · cases hv
                    rw [← hc2] at hQ2
                    conv => whnf
                    refine ⟨_, wrap_succ hkp hpm, ?_⟩
                    conv => whnf
                    refine ⟨(c2, k + 1), ⟨hkp, hQ2⟩, Nat.sub_succ_lt_self _ _ hkp, Nat.le_refl _, ?_⟩
                    repeat
                      conv => whnf
                      refine ⟨rfl, ?_⟩
                    exact ⟨.inr rfl, .inr rfl, .inr rfl, .inr rfl, .inr rfl, .inr rfl, .inr rfl, .inr rfl, trivial⟩
                  · have hQ2 : Prog f b out c1 (parN f b out i (k + 1) b.fin.to[i]) := by
                      refine prog_skip hQ fun ec v hv => ?_
                      rcases hv with hv | hv
                      · exact .inl hv
                      · rw [hst, List.mem_append] at hv
                        rcases hv with hv | hv
                        · exact .inr hv
                        · rw [← ec, hb2] at hv
                          simp at hv
                    conv => whnf
                    refine ⟨_, wrap_succ hkp hpm, ?_⟩
                    conv => whnf
                    refine ⟨(c1, k + 1), ⟨hkp, hQ2⟩, Nat.sub_succ_lt_self _ _ hkp, Nat.le_refl _, ?_⟩
                    repeat
                      conv => whnf
                      refine ⟨rfl, ?_⟩
                    exact ⟨.inr rfl, .inr rfl, .inr rfl, .inr rfl, .inr rfl, .inr rfl, .inr rfl, .inr rfl, trivial⟩
                · have hka : ¬ k < b.fin.to[i].args.length := by simpa using h2
                  have hQ2 : Prog f b out c1 (parN f b out i (k + 1) b.fin.to[i]) := by
                    refine prog_skip hQ fun ec v hv => ?_
                    rcases hv with hv | hv
                    · exact .inl hv
                    · right
                      rw [keptL_all _ _ _ _ (fun hh => hka hh.2)]
                      rwa [keptL_all _ _ _ _ (fun hh => by omega)] at hv
                  conv => whnf
                  refine ⟨_, wrap_succ hkp hpm, ?_⟩
                  conv => whnf
                  refine ⟨(c1, k + 1), ⟨hkp, hQ2⟩, Nat.sub_succ_lt_self _ _ hkp, Nat.le_refl _, ?_⟩
                  repeat
                    conv => whnf
                    refine ⟨rfl, ?_⟩
                  exact ⟨.inr rfl, .inr rfl, .inr rfl, .inr rfl, .inr rfl, .inr rfl, .inr rfl, .inr rfl, trivial⟩
              · have hkk : ¬ k < (paramsAt f (b.fin.to[i]).to).length := by simpa using h'
                conv => whnf
                refine ⟨_, wrap_succ hi m2, ?_⟩
                conv => whnf
                refine ⟨(c1, i + 1), ⟨hi, prog_skip hQ fun _ v hv => edg_next hi hv hkk⟩, Nat.sub_succ_lt_self _ _ hi, Nat.le_refl _, ?_⟩
                repeat
                  conv => whnf
                  refine ⟨rfl, ?_⟩
                exact ⟨.inr rfl, .inr rfl, .inr rfl, .inr rfl, .inr rfl, .inr rfl, .inr rfl, trivial⟩
          · have hi : i = b.fin.to.length := by
              have : ¬ i < b.fin.to.length := by simpa using h
              omega
            conv => whnf
            refine hk c (prog_skip hP fun _ v hv => ?_)
            rw [hi]
            exact edg_all hv
      · have hp0 : Prog f b out cur (edgN f b out 0) := prog_skip hp fun _ v hv => by
          unfold edgN at hv
          unfold insAll
          simpa [endW_none k1 k2 k3] using hv
        revert hp0
        generalize cur = c0
        intro hp0
        conv => whnf
        refine add_gone ?_
        clear hp
        refine loop_tmpl Θok (S := List Bool × Nat) (fun ⟨_, i⟩ => [(31, .d (.i .i64 i))]) [2, 3, 4, 29, 30]
          (fun ⟨c, _⟩ => HH f c [.box (mapD b.row), .box (mapD f.row), .box (mapD b.fin.row), .gone])
          (fun ⟨c, i⟩ => i ≤ b.fin.to.length ∧ Prog f b out c (edgN f b out i)) (fun ⟨_, i⟩ => b.fin.to.length - i) (c0, 0) (Nat.le_refl _)
          (fun ⟨_, _⟩ => ⟨rfl, HH_refs rfl⟩) ?_ ?_
        · refine ⟨⟨Nat.zero_le _, hp0⟩, ?_⟩
          conv => whnf
          refine ⟨rfl, ?_⟩
          exact wkH_refl _
        · rintro ⟨c, i⟩ ⟨hI, hP⟩ hH
          conv => whnf
          intro hE
          conv => whnf
          refine brd (fun h => ?_) (fun h => ?_)
          · have hi : i < b.fin.to.length := by simpa using h
            have hpa : b.fin.to[i].args.length ≤ maxLen := by
              have := sumL_get (l := b.fin.to.map Edg.size) (i := i) (x := b.fin.to[i].size) (by simp [hi])
              simp only [Edg.size] at this
              have : b.fin.to[i].args.length ≤ 2 ^ 30 := by unfold Blk.size at hb; omega
              exact Nat.le_trans this (by decide)
            have hpm : (paramsAt f (b.fin.to[i]).to).length ≤ maxLen := by
              have := hpl (b.fin.to[i]).to
              exact Nat.le_trans this (by decide)
            conv => whnf
            refine ⟨Int.natCast_nonneg i, _, row_at hi, rfl, ?_⟩
            conv => whnf
            refine con_use (con53 f b.fin.to[i]) rfl rfl ?_
            conv => whnf
            refine loop_tmpl Θok (S := List Bool × Nat) (fun ⟨_, k⟩ => [(39, .d (.i .i64 k))]) [2, 3, 4, 9, 29, 30, 31, 37, 38]
              (fun ⟨c, _⟩ => HH f c [.box (mapD b.row), .box (mapD f.row), .box (mapD b.fin.row), .gone, .box (mapD b.fin.to[i].row)])
              (fun ⟨c, k⟩ => k ≤ (paramsAt f (b.fin.to[i]).to).length ∧ Prog f b out c (parN f b out i k b.fin.to[i])) (fun ⟨_, k⟩ => (paramsAt f (b.fin.to[i]).to).length - k) (c, 0) (Nat.le_refl _)
              (fun ⟨_, _⟩ => ⟨rfl, HH_refs rfl⟩) ?_ ?_
            · refine ⟨⟨Nat.zero_le _, prog_skip hP fun _ v hv => par_zero hv⟩, ?_⟩
              conv => whnf
              refine ⟨rfl, ?_⟩
              exact wkH_refl _
            · rintro ⟨c1, k⟩ ⟨hK, hQ⟩ hH2
              conv => whnf
              intro hE2
              conv => whnf
              refine brd (fun h' => ?_) (fun h' => ?_)
              · have hkp : k < (paramsAt f (b.fin.to[i]).to).length := by simpa using h'
                conv => whnf
                refine ⟨Int.natCast_nonneg k, _, row_at hkp, rfl, ?_⟩
                conv => whnf
                refine brd (fun h2 => ?_) (fun h2 => ?_)
                · have hka : k < b.fin.to[i].args.length := by simpa using h2
                  have hst := keptL_step out (paramsAt f (b.fin.to[i]).to) b.fin.to[i].args k hkp hka
                  conv => whnf
                  refine callOk_give Go.Proofs.Tryz.call25 [[.i .i64 (paramsAt f (b.fin.to[i]).to)[k]]] (HH f c1 [.box (mapD b.row), .box (mapD f.row), .box (mapD b.fin.row), .gone, .box (mapD b.fin.to[i].row), .gone]) rfl rfl rfl rfl ?_
                  refine ok25 (f := f) (out := c1) (X := [.box (mapD b.row), .box (mapD f.row), .box (mapD b.fin.row), .gone, .box (mapD b.fin.to[i].row), .gone]) (hQ.len.trans hlen) rfl [(paramsAt f (b.fin.to[i]).to)[k]] (one _) (fun hb2 => ?_) (fun hb2 => ?_)
                  · conv => whnf
                    refine ⟨Int.natCast_nonneg k, _, row_at hka, rfl, ?_⟩
                    conv => whnf
                    refine callOk_give Go.Proofs.Tryz.call28 [[.i .i64 b.fin.to[i].args[k]]] (HH f c1 [.box (mapD b.row), .box (mapD f.row), .box (mapD b.fin.row), .gone, .box (mapD b.fin.to[i].row), .gone, .gone]) rfl rfl rfl rfl ?_
                    refine ok28 (f := f) (out := c1) (X := [.box (mapD b.row), .box (mapD f.row), .box (mapD b.fin.row), .gone, .box (mapD b.fin.to[i].row), .gone, .gone]) rfl [b.fin.to[i].args[k]] (one _) fun c2 hc2 => ?_
                    have hQ2 : Prog f b out (markL c1 [b.fin.to[i].args[k]]).1 (parN f b out i (k + 1) b.fin.to[i]) := by
                      refine prog_step hQ (fun v hv => ?_) fun ec v hv => ?_
                      · rw [List.mem_singleton] at hv
                        rw [hv]
                        exact in_edge (List.getElem_mem hi) (keptL_get hkp hka hb2)
                      · rcases hv with hv | hv
                        · exact .inl (.inl hv)
                        · rw [hst, List.mem_append] at hv
                          rcases hv with hv | hv
                          · exact .inl (.inr hv)
                          · split at hv
                            · exact .inr hv
                            · cases hv
                    rw [← hc2] at hQ2
                    conv => whnf
                    refine ⟨_, wrap_succ hkp hpm, ?_⟩
                    conv => whnf
                    refine ⟨(c2, k + 1), ⟨hkp, hQ2⟩, Nat.sub_succ_lt_self _ _ hkp, Nat.le_refl _, ?_⟩
                    repeat
                      conv => whnf
                      refine ⟨rfl, ?_⟩
                    exact ⟨.inr rfl, .inr rfl, .inr rfl, .inr rfl, .inr rfl, .inr rfl, .inr rfl, .inr rfl, trivial⟩
                  · have hQ2 : Prog f b out c1 (parN f b out i (k + 1) b.fin.to[i]) := by
                      refine prog_skip hQ fun ec v hv => ?_
                      rcases hv with hv | hv
                      · exact .inl hv
                      · rw [hst, List.mem_append] at hv
                        rcases hv with hv | hv
                        · exact .inr hv
                        · rw [← ec, hb2] at hv
                          simp at hv
                    conv => whnf
                    refine ⟨_, wrap_succ hkp hpm, ?_⟩
                    conv => whnf
                    refine ⟨(c1, k + 1), ⟨hkp, hQ2⟩, Nat.sub_succ_lt_self _ _ hkp, Nat.le_refl _, ?_⟩
                    repeat
                      conv => whnf
                      refine ⟨rfl, ?_⟩
                    exact ⟨.inr rfl, .inr rfl, .inr rfl, .inr rfl, .inr rfl, .inr rfl, .inr rfl, .inr rfl, trivial⟩
                · have hka : ¬ k < b.fin.to[i].args.length := by simpa using h2
                  have hQ2 : Prog f b out c1 (parN f b out i (k + 1) b.fin.to[i]) := by
                    refine prog_skip hQ fun ec v hv => ?_
                    rcases hv with hv | hv
                    · exact .inl hv
                    · right
                      rw [keptL_all _ _ _ _ (fun hh => hka hh.2)]
                      rwa [keptL_all _ _ _ _ (fun hh => by omega)] at hv
                  conv => whnf
                  refine ⟨_, wrap_succ hkp hpm, ?_⟩
                  conv => whnf
                  refine ⟨(c1, k + 1), ⟨hkp, hQ2⟩, Nat.sub_succ_lt_self _ _ hkp, Nat.le_refl _, ?_⟩
                  repeat
                    conv => whnf
                    refine ⟨rfl, ?_⟩
                  exact ⟨.inr rfl, .inr rfl, .inr rfl, .inr rfl, .inr rfl, .inr rfl, .inr rfl, .inr rfl, trivial⟩
              · have hkk : ¬ k < (paramsAt f (b.fin.to[i]).to).length := by simpa using h'
                conv => whnf
                refine ⟨_, wrap_succ hi m2, ?_⟩
                conv => whnf
                refine ⟨(c1, i + 1), ⟨hi, prog_skip hQ fun _ v hv => edg_next hi hv hkk⟩, Nat.sub_succ_lt_self _ _ hi, Nat.le_refl _, ?_⟩
                repeat
                  conv => whnf
                  refine ⟨rfl, ?_⟩
                exact ⟨.inr rfl, .inr rfl, .inr rfl, .inr rfl, .inr rfl, .inr rfl, .inr rfl, trivial⟩
          · have hi : i = b.fin.to.length := by
              have : ¬ i < b.fin.to.length := by simpa using h
              omega
            conv => whnf
            refine hk c (prog_skip hP fun _ v hv => ?_)
            rw [hi]
            exact edg_all hv
    · conv => whnf
      refine callOk_give Go.Proofs.Tryz.call28 [[.i .i64 b.fin.cond]] (HH f cur [.box (mapD b.row), .box (mapD f.row), .box (mapD b.fin.row), .gone]) rfl rfl rfl rfl ?_
      refine ok28 (f := f) (out := cur) (X := [.box (mapD b.row), .box (mapD f.row), .box (mapD b.fin.row), .gone]) rfl [b.fin.cond] (one _) fun c0 hc2 => ?_
      have hp0 := prog_end hp (endW_if (.inr k2))
      rw [← hc2] at hp0
      conv => whnf
      clear hp
      refine loop_tmpl Θok (S := List Bool × Nat) (fun ⟨_, i⟩ => [(31, .d (.i .i64 i))]) [2, 3, 4, 29, 30]
        (fun ⟨c, _⟩ => HH f c [.box (mapD b.row), .box (mapD f.row), .box (mapD b.fin.row), .gone])
        (fun ⟨c, i⟩ => i ≤ b.fin.to.length ∧ Prog f b out c (edgN f b out i)) (fun ⟨_, i⟩ => b.fin.to.length - i) (c0, 0) (Nat.le_refl _)
        (fun ⟨_, _⟩ => ⟨rfl, HH_refs rfl⟩) ?_ ?_
      · refine ⟨⟨Nat.zero_le _, hp0⟩, ?_⟩
        conv => whnf
        refine ⟨rfl, ?_⟩
        exact wkH_refl _
      · rintro ⟨c, i⟩ ⟨hI, hP⟩ hH
        conv => whnf
        intro hE
        conv => whnf
        refine brd (fun h => ?_) (fun h => ?_)
        · have hi : i < b.fin.to.length := by simpa using h
          have hpa : b.fin.to[i].args.length ≤ maxLen := by
            have := sumL_get (l := b.fin.to.map Edg.size) (i := i) (x := b.fin.to[i].size) (by simp [hi])
            simp only [Edg.size] at this
            have : b.fin.to[i].args.length ≤ 2 ^ 30 := by unfold Blk.size at hb; omega
            exact Nat.le_trans this (by decide)
          have hpm : (paramsAt f (b.fin.to[i]).to).length ≤ maxLen := by
            have := hpl (b.fin.to[i]).to
            exact Nat.le_trans this (by decide)
          conv => whnf
          refine ⟨Int.natCast_nonneg i, _, row_at hi, rfl, ?_⟩
          conv => whnf
          refine con_use (con53 f b.fin.to[i]) rfl rfl ?_
          conv => whnf
          refine loop_tmpl Θok (S := List Bool × Nat) (fun ⟨_, k⟩ => [(39, .d (.i .i64 k))]) [2, 3, 4, 9, 29, 30, 31, 37, 38]
            (fun ⟨c, _⟩ => HH f c [.box (mapD b.row), .box (mapD f.row), .box (mapD b.fin.row), .gone, .box (mapD b.fin.to[i].row)])
            (fun ⟨c, k⟩ => k ≤ (paramsAt f (b.fin.to[i]).to).length ∧ Prog f b out c (parN f b out i k b.fin.to[i])) (fun ⟨_, k⟩ => (paramsAt f (b.fin.to[i]).to).length - k) (c, 0) (Nat.le_refl _)
            (fun ⟨_, _⟩ => ⟨rfl, HH_refs rfl⟩) ?_ ?_
          · refine ⟨⟨Nat.zero_le _, prog_skip hP fun _ v hv => par_zero hv⟩, ?_⟩
            conv => whnf
            refine ⟨rfl, ?_⟩
            exact wkH_refl _
          · rintro ⟨c1, k⟩ ⟨hK, hQ⟩ hH2
            conv => whnf
            intro hE2
            conv => whnf
            refine brd (fun h' => ?_) (fun h' => ?_)
            · have hkp : k < (paramsAt f (b.fin.to[i]).to).length := by simpa using h'
              conv => whnf
              refine ⟨Int.natCast_nonneg k, _, row_at hkp, rfl, ?_⟩
              conv => whnf
              refine brd (fun h2 => ?_) (fun h2 => ?_)
              · have hka : k < b.fin.to[i].args.length := by simpa using h2
                have hst := keptL_step out (paramsAt f (b.fin.to[i]).to) b.fin.to[i].args k hkp hka
                conv => whnf
                refine callOk_give Go.Proofs.Tryz.call25 [[.i .i64 (paramsAt f (b.fin.to[i]).to)[k]]] (HH f c1 [.box (mapD b.row), .box (mapD f.row), .box (mapD b.fin.row), .gone, .box (mapD b.fin.to[i].row), .gone]) rfl rfl rfl rfl ?_
                refine ok25 (f := f) (out := c1) (X := [.box (mapD b.row), .box (mapD f.row), .box (mapD b.fin.row), .gone, .box (mapD b.fin.to[i].row), .gone]) (hQ.len.trans hlen) rfl [(paramsAt f (b.fin.to[i]).to)[k]] (one _) (fun hb2 => ?_) (fun hb2 => ?_)
                · conv => whnf
                  refine ⟨Int.natCast_nonneg k, _, row_at hka, rfl, ?_⟩
                  conv => whnf
                  refine callOk_give Go.Proofs.Tryz.call28 [[.i .i64 b.fin.to[i].args[k]]] (HH f c1 [.box (mapD b.row), .box (mapD f.row), .box (mapD b.fin.row), .gone, .box (mapD b.fin.to[i].row), .gone, .gone]) rfl rfl rfl rfl ?_
                  refine ok28 (f := f) (out := c1) (X := [.box (mapD b.row), .box (mapD f.row), .box (mapD b.fin.row), .gone, .box (mapD b.fin.to[i].row), .gone, .gone]) rfl [b.fin.to[i].args[k]] (one _) fun c2 hc2 => ?_
                  have hQ2 : Prog f b out (markL c1 [b.fin.to[i].args[k]]).1 (parN f b out i (k + 1) b.fin.to[i]) := by
                    refine prog_step hQ (fun v hv => ?_) fun ec v hv => ?_
                    · rw [List.mem_singleton] at hv
                      rw [hv]
                      exact in_edge (List.getElem_mem hi) (keptL_get hkp hka hb2)
                    · rcases hv with hv | hv
                      · exact .inl (.inl hv)
                      · rw [hst, List.mem_append] at hv
                        rcases hv with hv | hv
                        · exact .inl (.inr hv)
                        · split at hv
                          · exact .inr hv
                          · cases hv
                  rw [← hc2] at hQ2
                  conv => whnf
                  refine ⟨_, wrap_succ hkp hpm, ?_⟩
                  conv => whnf
                  refine ⟨(c2, k + 1), ⟨hkp, hQ2⟩, Nat.sub_succ_lt_self _ _ hkp, Nat.le_refl _, ?_⟩
                  repeat
                    conv => whnf
                    refine ⟨rfl, ?_⟩
                  exact ⟨.inr rfl, .inr rfl, .inr rfl, .inr rfl, .inr rfl, .inr rfl, .inr rfl, .inr rfl, trivial⟩
                · have hQ2 : Prog f b out c1 (parN f b out i (k + 1) b.fin.to[i]) := by
                    refine prog_skip hQ fun ec v hv => ?_
                    rcases hv with hv | hv
                    · exact .inl hv
                    · rw [hst, List.mem_append] at hv
                      rcases hv with hv | hv
                      · exact .inr hv
                      · rw [← ec, hb2] at hv
                        simp at hv
                  conv => whnf
                  refine ⟨_, wrap_succ hkp hpm, ?_⟩
                  conv => whnf
                  refine ⟨(c1, k + 1), ⟨hkp, hQ2⟩, Nat.sub_succ_lt_self _ _ hkp, Nat.le_refl _, ?_⟩
                  repeat
                    conv => whnf
                    refine ⟨rfl, ?_⟩
                  exact ⟨.inr rfl, .inr rfl, .inr rfl, .inr rfl, .inr rfl, .inr rfl, .inr rfl, .inr rfl, trivial⟩
              · have hka : ¬ k < b.fin.to[i].args.length := by simpa using h2
                have hQ2 : Prog f b out c1 (parN f b out i (k + 1) b.fin.to[i]) := by
                  refine prog_skip hQ fun ec v hv => ?_
                  rcases hv with hv | hv
                  · exact .inl hv
                  · right
                    rw [keptL_all _ _ _ _ (fun hh => hka hh.2)]
                    rwa [keptL_all _ _ _ _ (fun hh => by omega)] at hv
                conv => whnf
                refine ⟨_, wrap_succ hkp hpm, ?_⟩
                conv => whnf
                refine ⟨(c1, k + 1), ⟨hkp, hQ2⟩, Nat.sub_succ_lt_self _ _ hkp, Nat.le_refl _, ?_⟩
                repeat
                  conv => whnf
                  refine ⟨rfl, ?_⟩
                exact ⟨.inr rfl, .inr rfl, .inr rfl, .inr rfl, .inr rfl, .inr rfl, .inr rfl, .inr rfl, trivial⟩
            · have hkk : ¬ k < (paramsAt f (b.fin.to[i]).to).length := by simpa using h'
              conv => whnf
              refine ⟨_, wrap_succ hi m2, ?_⟩
              conv => whnf
              refine ⟨(c1, i + 1), ⟨hi, prog_skip hQ fun _ v hv => edg_next hi hv hkk⟩, Nat.sub_succ_lt_self _ _ hi, Nat.le_refl _, ?_⟩
              repeat
                conv => whnf
                refine ⟨rfl, ?_⟩
              exact ⟨.inr rfl, .inr rfl, .inr rfl, .inr rfl, .inr rfl, .inr rfl, .inr rfl, trivial⟩
        · have hi : i = b.fin.to.length := by
            have : ¬ i < b.fin.to.length := by simpa using h
            omega
          conv => whnf
          refine hk c (prog_skip hP fun _ v hv => ?_)
          rw [hi]
          exact edg_all hv
  · conv => whnf
    refine callOk_give Go.Proofs.Tryz.call28 [[.i .i64 b.fin.cond]] (HH f cur [.box (mapD b.row), .box (mapD f.row), .box (mapD b.fin.row), .gone]) rfl rfl rfl rfl ?_
    refine ok28 (f := f) (out := cur) (X := [.box (mapD b.row), .box (mapD f.row), .box (mapD b.fin.row), .gone]) rfl [b.fin.cond] (one _) fun c0 hc2 => ?_
    have hp0 := prog_end hp (endW_if (.inl k1))
    rw [← hc2] at hp0
    conv => whnf
    clear hp
    refine loop_tmpl Θok (S := List Bool × Nat) (fun ⟨_, i⟩ => [(31, .d (.i .i64 i))]) [2, 3, 4, 29, 30]
      (fun ⟨c, _⟩ => HH f c [.box (mapD b.row), .box (mapD f.row), .box (mapD b.fin.row), .gone])
      (fun ⟨c, i⟩ => i ≤ b.fin.to.length ∧ Prog f b out c (edgN f b out i)) (fun ⟨_, i⟩ => b.fin.to.length - i) (c0, 0) (Nat.le_refl _)
      (fun ⟨_, _⟩ => ⟨rfl, HH_refs rfl⟩) ?_ ?_
    · refine ⟨⟨Nat.zero_le _, hp0⟩, ?_⟩
      conv => whnf
      refine ⟨rfl, ?_⟩
      exact wkH_refl _
    · rintro ⟨c, i⟩ ⟨hI, hP⟩ hH
      conv => whnf
      intro hE
      conv => whnf
      refine brd (fun h => ?_) (fun h => ?_)
      · have hi : i < b.fin.to.length := by simpa using h
        have hpa : b.fin.to[i].args.length ≤ maxLen := by
          have := sumL_get (l := b.fin.to.map Edg.size) (i := i) (x := b.fin.to[i].size) (by simp [hi])
          simp only [Edg.size] at this
          have : b.fin.to[i].args.length ≤ 2 ^ 30 := by unfold Blk.size at hb; omega
          exact Nat.le_trans this (by decide)
        have hpm : (paramsAt f (b.fin.to[i]).to).length ≤ maxLen := by
          have := hpl (b.fin.to[i]).to
          exact Nat.le_trans this (by decide)
        conv => whnf
        refine ⟨Int.natCast_nonneg i, _, row_at hi, rfl, ?_⟩
        conv => whnf
        refine con_use (con53 f b.fin.to[i]) rfl rfl ?_
        conv => whnf
        refine loop_tmpl Θok (S := List Bool × Nat) (fun ⟨_, k⟩ => [(39, .d (.i .i64 k))]) [2, 3, 4, 9, 29, 30, 31, 37, 38]
          (fun ⟨c, _⟩ => HH f c [.box (mapD b.row), .box (mapD f.row), .box (mapD b.fin.row), .gone, .box (mapD b.fin.to[i].row)])
          (fun ⟨c, k⟩ => k ≤ (paramsAt f (b.fin.to[i]).to).length ∧ Prog f b out c (parN f b out i k b.fin.to[i])) (fun ⟨_, k⟩ => (paramsAt f (b.fin.to[i]).to).length - k) (c, 0) (Nat.le_refl _)
          (fun ⟨_, _⟩ => ⟨rfl, HH_refs rfl⟩) ?_ ?_
        · refine ⟨⟨Nat.zero_le _, prog_skip hP fun _ v hv => par_zero hv⟩, ?_⟩
          conv => whnf
          refine ⟨rfl, ?_⟩
          exact wkH_refl _
        · rintro ⟨c1, k⟩ ⟨hK, hQ⟩ hH2
          conv => whnf
          intro hE2
          conv => whnf
          refine brd (fun h' => ?_) (fun h' => ?_)
          · have hkp : k < (paramsAt f (b.fin.to[i]).to).length := by simpa using h'
            conv => whnf
            refine ⟨Int.natCast_nonneg k, _, row_at hkp, rfl, ?_⟩
            conv => whnf
            refine brd (fun h2 => ?_) (fun h2 => ?_)
            · have hka : k < b.fin.to[i].args.length := by simpa using h2
              have hst := keptL_step out (paramsAt f (b.fin.to[i]).to) b.fin.to[i].args k hkp hka
              conv => whnf
              refine callOk_give Go.Proofs.Tryz.call25 [[.i .i64 (paramsAt f (b.fin.to[i]).to)[k]]] (HH f c1 [.box (mapD b.row), .box (mapD f.row), .box (mapD b.fin.row), .gone, .box (mapD b.fin.to[i].row), .gone]) rfl rfl rfl rfl ?_
              refine ok25 (f := f) (out := c1) (X := [.box (mapD b.row), .box (mapD f.row), .box (mapD b.fin.row), .gone, .box (mapD b.fin.to[i].row), .gone]) (hQ.len.trans hlen) rfl [(paramsAt f (b.fin.to[i]).to)[k]] (one _) (fun hb2 => ?_) (fun hb2 => ?_)
              · conv => whnf
                refine ⟨Int.natCast_nonneg k, _, row_at hka, rfl, ?_⟩
                conv => whnf
                refine callOk_give Go.Proofs.Tryz.call28 [[.i .i64 b.fin.to[i].args[k]]] (HH f c1 [.box (mapD b.row), .box (mapD f.row), .box (mapD b.fin.row), .gone, .box (mapD b.fin.to[i].row), .gone, .gone]) rfl rfl rfl rfl ?_
                refine ok28 (f := f) (out := c1) (X := [.box (mapD b.row), .box (mapD f.row), .box (mapD b.fin.row), .gone, .box (mapD b.fin.to[i].row), .gone, .gone]) rfl [b.fin.to[i].args[k]] (one _) fun c2 hc2 => ?_
                have hQ2 : Prog f b out (markL c1 [b.fin.to[i].args[k]]).1 (parN f b out i (k + 1) b.fin.to[i]) := by
                  refine prog_step hQ (fun v hv => ?_) fun ec v hv => ?_
                  · rw [List.mem_singleton] at hv
                    rw [hv]
                    exact in_edge (List.getElem_mem hi) (keptL_get hkp hka hb2)
                  · rcases hv with hv | hv
                    · exact .inl (.inl hv)
                    · rw [hst, List.mem_append] at hv
                      rcases hv with hv | hv
                      · exact .inl (.inr hv)
                      · split at hv
                        · exact .inr hv
                        · cases hv
                rw [← hc2] at hQ2
                conv => whnf
                refine ⟨_, wrap_succ hkp hpm, ?_⟩
                conv => whnf
                refine ⟨(c2, k + 1), ⟨hkp, hQ2⟩, Nat.sub_succ_lt_self _ _ hkp, Nat.le_refl _, ?_⟩
                repeat
                  conv => whnf
                  refine ⟨rfl, ?_⟩
                exact ⟨.inr rfl, .inr rfl, .inr rfl, .inr rfl, .inr rfl, .inr rfl, .inr rfl, .inr rfl, trivial⟩
              · have hQ2 : Prog f b out c1 (parN f b out i (k + 1) b.fin.to[i]) := by
                  refine prog_skip hQ fun ec v hv => ?_
                  rcases hv with hv | hv
                  · exact .inl hv
                  · rw [hst, List.mem_append] at hv
                    rcases hv with hv | hv
                    · exact .inr hv
                    · rw [← ec, hb2] at hv
                      simp at hv
                conv => whnf
                refine ⟨_, wrap_succ hkp hpm, ?_⟩
                conv => whnf
                refine ⟨(c1, k + 1), ⟨hkp, hQ2⟩, Nat.sub_succ_lt_self _ _ hkp, Nat.le_refl _, ?_⟩
                repeat
                  conv => whnf
                  refine ⟨rfl, ?_⟩
                exact ⟨.inr rfl, .inr rfl, .inr rfl, .inr rfl, .inr rfl, .inr rfl, .inr rfl, .inr rfl, trivial⟩
            · have hka : ¬ k < b.fin.to[i].args.length := by simpa using h2
              have hQ2 : Prog f b out c1 (parN f b out i (k + 1) b.fin.to[i]) := by
                refine prog_skip hQ fun ec v hv => ?_
                rcases hv with hv | hv
                · exact .inl hv
                · right
                  rw [keptL_all _ _ _ _ (fun hh => hka hh.2)]
                  rwa [keptL_all _ _ _ _ (fun hh => by omega)] at hv
              conv => whnf
              refine ⟨_, wrap_succ hkp hpm, ?_⟩
              conv => whnf
              refine ⟨(c1, k + 1), ⟨hkp, hQ2⟩, Nat.sub_succ_lt_self _ _ hkp, Nat.le_refl _, ?_⟩
              repeat
                conv => whnf
                refine ⟨rfl, ?_⟩
              exact ⟨.inr rfl, .inr rfl, .inr rfl, .inr rfl, .inr rfl, .inr rfl, .inr rfl, .inr rfl, trivial⟩
          · have hkk : ¬ k < (paramsAt f (b.fin.to[i]).to).length := by simpa using h'
            conv => whnf
            refine ⟨_, wrap_succ hi m2, ?_⟩
            conv => whnf
            refine ⟨(c1, i + 1), ⟨hi, prog_skip hQ fun _ v hv => edg_next hi hv hkk⟩, Nat.sub_succ_lt_self _ _ hi, Nat.le_refl _, ?_⟩
            repeat
              conv => whnf
              refine ⟨rfl, ?_⟩
            exact ⟨.inr rfl, .inr rfl, .inr rfl, .inr rfl, .inr rfl, .inr rfl, .inr rfl, trivial⟩
      · have hi : i = b.fin.to.length := by
          have : ¬ i < b.fin.to.length := by simpa using h
          omega
        conv => whnf
        refine hk c (prog_skip hP fun _ v hv => ?_)
        rw [hi]
        exact edg_all hv
end
end Go.DL
