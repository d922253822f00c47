/- Forgetting, loops, contracts. -/
import Derived.Test.YtidjlmjibfbmjaaGreatDoorDl11
namespace Go.DL
open Go.RowKit

/-! facts that every value has -/
mutual
def D.wf : D → Prop
  | .b _ => True
  | .i k n => k.wrap n = n
  | .s x => x.size ≤ maxLen
  | .sl els => els.length ≤ maxLen ∧ ∃ es, 0 < es ∧ D.wfRows es els
def D.wfRows (es : Nat) : List (List D) → Prop
  | [] => True
  | r :: rs => r.length = es ∧ D.wfs r ∧ D.wfRows es rs
def D.wfs : List D → Prop
  | [] => True
  | x :: xs => x.wf ∧ D.wfs xs
end
mutual
def A.wf : A → Prop
  | .d x => x.wf
  | .agg cs => A.wfs cs
  | .tup cs => A.wfs cs
  | .fp row => D.wfs row
  | .fn _ fs cs => A.wfs fs ∧ A.wfs cs
  | _ => True
def A.wfs : List A → Prop
  | [] => True
  | x :: xs => x.wf ∧ A.wfs xs
end
def A.wfRows (es : Nat) : List (List A) → Prop
  | [] => True
  | r :: rs => r.length = es ∧ A.wfs r ∧ A.wfRows es rs
def wfEnts (k : IntKind) : List (Int × A) → Prop
  | [] => True
  | x :: xs => k.wrap x.1 = x.1 ∧ x.2.wf ∧ wfEnts k xs
def Ob.wf : Ob → Prop
  | .box cs => A.wfs cs
  | .vec _ es els => els.length ≤ maxLen ∧ 0 < es ∧ A.wfRows es els
  | .map k es => wfEnts k es
  | .gone => True
def wfH : List Ob → Prop
  | [] => True
  | x :: xs => x.wf ∧ wfH xs

mutual
theorem RD.wf {g : Nat → Prop} {w : World} : ∀ (x : D) (v : Value), RD g w x v → x.wf
  | .b _, _, _ => trivial
  | .i _ _, _, h => by simp only [RD] at h; exact h.2
  | .s _, _, h => by simp only [RD] at h; exact h.2
  | .sl els, v, h => by
    simp only [RD] at h
    obtain ⟨a, c, es, rfl, h1, h2, h3, h4⟩ := h
    refine ⟨by omega, es, h3, ?_⟩
    rcases h4 with rfl | ⟨blk, off, _, _, h4⟩
    · trivial
    · exact RDrows.wf es els blk off h4
theorem RDrows.wf {g : Nat → Prop} {w : World} (es : Nat) : ∀ (els : List (List D)) (blk off : Nat), RDrows g w es els blk off → D.wfRows es els
  | [], _, _, _ => trivial
  | r :: rs, blk, off, h => by
    simp only [RDrows] at h
    exact ⟨h.1, RDs.wf r blk off h.2.1, RDrows.wf es rs blk _ h.2.2⟩
theorem RDs.wf {g : Nat → Prop} {w : World} : ∀ (xs : List D) (blk off : Nat), RDs g w xs blk off → D.wfs xs
  | [], _, _, _ => trivial
  | x :: xs, blk, off, h => by
    simp only [RDs] at h
    obtain ⟨⟨u, _, hu⟩, h⟩ := h
    exact ⟨RD.wf x u hu, RDs.wf xs blk _ h⟩
end
mutual
theorem RV.wf {ρ : List Loc} {H : List Ob} {g : Nat → Prop} {w : World} : ∀ (x : A) (v : Value), RV ρ H g w x v → x.wf
  | .undef, _, _ => trivial
  | .d x, v, h => by simp only [RV] at h; exact RD.wf x v h
  | .agg cs, _, h => by simp only [RV] at h; obtain ⟨vs, _, h⟩ := h; exact RVs.wf cs _ h
  | .tup cs, _, h => by simp only [RV] at h; obtain ⟨vs, _, h⟩ := h; exact RVs.wf cs _ h
  | .ptr .., _, _ => trivial
  | .fp row, _, h => by simp only [RV] at h; obtain ⟨blk, off, _, _, h⟩ := h; exact RDs.wf row _ _ h
  | .vp .., _, _ => trivial
  | .vs .., _, _ => trivial
  | .es, _, _ => trivial
  | .fn f fs cs, _, h => by simp only [RV] at h; obtain ⟨x, y, _, h1, h2⟩ := h; exact ⟨RVs.wf fs _ h1, RVs.wf cs _ h2⟩
  | .nilp, _, _ => trivial
  | .nilf, _, _ => trivial
  | .mp _, _, _ => trivial
  | .nilm, _, _ => trivial
theorem RVs.wf {ρ : List Loc} {H : List Ob} {g : Nat → Prop} {w : World} : ∀ (xs : List A) (vs : List Value), RVs ρ H g w xs vs → A.wfs xs
  | [], _, _ => trivial
  | x :: xs, _, h => by
    simp only [RVs] at h
    obtain ⟨v, r, _, h1, h2⟩ := h
    exact ⟨RV.wf x v h1, RVs.wf xs r h2⟩
end
theorem RVcells.wf {ρ : List Loc} {H : List Ob} {g : Nat → Prop} {w : World} : ∀ (xs : List A) (blk off : Nat), RVcells ρ H g w xs blk off → A.wfs xs
  | [], _, _, _ => trivial
  | x :: xs, blk, off, h => by
    simp only [RVcells] at h
    obtain ⟨_, ⟨u, _, hu⟩, h⟩ := h
    exact ⟨RV.wf x u hu, RVcells.wf xs blk _ h⟩
theorem RVrows.wf {ρ : List Loc} {H : List Ob} {g : Nat → Prop} {w : World} (es : Nat) : ∀ (els : List (List A)) (blk off : Nat), RVrows ρ H g w es els blk off → A.wfRows es els
  | [], _, _, _ => trivial
  | r :: rs, blk, off, h => by
    simp only [RVrows] at h
    exact ⟨h.1, RVcells.wf r blk off h.2.1, RVrows.wf es rs blk _ h.2.2⟩
theorem Ents.wf {ρ : List Loc} {H : List Ob} {g : Nat → Prop} {w : World} {k : IntKind} : ∀ (xs : List (Int × A)) (es : List MapEntry), Ents ρ H g w k xs es → wfEnts k xs
  | [], _, _ => trivial
  | x :: xs, _, h => by
    simp only [Ents] at h
    obtain ⟨e, r, _, _, h2, h3, h4⟩ := h
    exact ⟨h2, RV.wf _ _ h3, Ents.wf xs r h4⟩
theorem ObOk.wf {ρ : List Loc} {H : List Ob} {g : Nat → Prop} {w : World} {l : Loc} {ob : Ob} (h : ObOk ρ H g w l ob) : ob.wf := by
  cases ob with
  | box cs => simp only [ObOk] at h; obtain ⟨vs, T, _, h⟩ := h; exact RVs.wf _ _ h
  | vec gn es els => simp only [ObOk] at h; exact ⟨by omega, h.2.2.1, RVrows.wf _ _ _ _ h.2.2.2.2⟩
  | map k es => simp only [ObOk] at h; obtain ⟨en, c, _, h⟩ := h; exact Ents.wf _ _ h
  | gone => trivial
theorem SimH.wf {G : Nat → Prop} {wb : World} {ρ : List Loc} {H : List Ob} {w : World} (hS : SimH G wb ρ H w) : wfH H := by
  have key : ∀ l : List Ob, (∀ x ∈ l, x.wf) → wfH l := by
    intro l
    induction l with
    | nil => exact fun _ => trivial
    | cons x xs ih => exact fun h => ⟨h x (by simp), ih fun y hy => h y (by simp [hy])⟩
  refine key H fun x hx => ?_
  obtain ⟨o, ho⟩ := List.mem_iff_getElem?.1 hx
  obtain ⟨l, hl⟩ := hS.loc ho
  exact (hS.ok o l x hl ho).wf

/-! forgetting -/
mutual
def A.refs (n : Nat) : A → Bool
  | .ptr o _ => Nat.blt o n
  | .vp o _ _ _ => Nat.blt o n
  | .vs o _ _ => Nat.blt o n
  | .mp o => Nat.blt o n
  | .agg cs => A.refsL n cs
  | .tup cs => A.refsL n cs
  | .fn _ fs cs => A.refsL n fs && A.refsL n cs
  | _ => true
def A.refsL (n : Nat) : List A → Bool
  | [] => true
  | x :: xs => x.refs n && A.refsL n xs
end
def refsE (n : Nat) : List (Int × A) → Bool
  | [] => true
  | x :: xs => x.2.refs n && refsE n xs
def refsR (n : Nat) : List (List A) → Bool
  | [] => true
  | r :: rs => A.refsL n r && refsR n rs
def Ob.refs (n : Nat) : Ob → Bool
  | .box cs => A.refsL n cs
  | .vec _ _ els => refsR n els
  | .map _ es => refsE n es
  | _ => true
def refsH (n : Nat) : List Ob → Bool
  | [] => true
  | x :: xs => x.refs n && refsH n xs

/-- the second is the first with some objects forgotten -/
def wkH : List Ob → List Ob → Prop
  | _, [] => True
  | [], _ :: _ => False
  | x :: xs, y :: ys => (y = .gone ∨ x = y) ∧ wkH xs ys
def wkE : List A → List A → Prop
  | [], [] => True
  | x :: xs, y :: ys => (y = .undef ∨ x = y) ∧ wkE xs ys
  | _, _ => False
theorem wkH_get : ∀ {H T : List Ob}, wkH H T → ∀ {o : Nat} {ob : Ob}, T[o]? = some ob → ob = .gone ∨ H[o]? = some ob
  | _, [], _, _, _, h => by simp at h
  | [], _ :: _, h, _, _, _ => h.elim
  | _ :: _, y :: ys, h, 0, ob, hb => by
    simp at hb
    subst hb
    rcases h.1 with h | h
    · exact .inl h
    · right; simp [h]
  | _ :: _, y :: ys, h, o + 1, ob, hb => by simpa using wkH_get h.2 (by simpa using hb)
theorem wkH_len : ∀ {H T : List Ob}, wkH H T → T.length ≤ H.length
  | _, [], _ => Nat.zero_le _
  | [], _ :: _, h => h.elim
  | _ :: _, _ :: _, h => by have := wkH_len h.2; simp; exact this
theorem wkH_refl : ∀ (H : List Ob), wkH H H
  | [] => trivial
  | _ :: xs => ⟨.inr rfl, wkH_refl xs⟩
theorem wkE_refl : ∀ (H : List A), wkE H H
  | [] => trivial
  | _ :: xs => ⟨.inr rfl, wkE_refl xs⟩

section
variable {G : Nat → Prop} {wb : World} {ρ : List Loc} {H T : List Ob} {w : World}
theorem take_get {α : Type} {l : List α} {n o : Nat} {x : α} (h : (l.take n)[o]? = some x) : l[o]? = some x ∧ o < n := by
  rw [List.getElem?_take] at h
  split at h
  · exact ⟨h, by assumption⟩
  · cases h
theorem owned_wk (hT : wkH H T) {b : Nat} (h : owned (ρ.take T.length) T b) : owned ρ H b := by
  obtain ⟨o, l, ob, h1, h2, h3, h4⟩ := h
  rcases wkH_get hT h2 with rfl | h5
  · exact h3.elim
  · exact ⟨o, l, ob, (take_get h1).1, h5, h3, h4⟩
mutual
theorem RV.wk {g g' : Nat → Prop} (hT : wkH H T) (hg : ∀ b, g b → g' b) : ∀ (x : A) (v : Value), x.refs T.length = true → RV ρ H g w x v → RV (ρ.take T.length) T g' w x v
  | .undef, _, _, _ => by simp [RV]
  | .d x, v, _, h => by simp only [RV] at h ⊢; exact RD.move (fun b _ => hg b) (fun _ _ _ => rfl) x v h
  | .agg cs, v, hr, h => by
    simp only [RV] at h ⊢
    obtain ⟨vs, rfl, h⟩ := h
    exact ⟨vs, rfl, RVs.wk hT hg cs _ hr h⟩
  | .tup cs, v, hr, h => by
    simp only [RV] at h ⊢
    obtain ⟨vs, rfl, h⟩ := h
    exact ⟨vs, rfl, RVs.wk hT hg cs _ hr h⟩
  | .ptr o off, v, hr, h => by
    simp only [RV] at h ⊢
    have hr : o < T.length := by simpa [A.refs] using hr
    refine ⟨h.1, hr, fun cs hc => ?_⟩
    rcases wkH_get hT hc with h' | h'
    · cases h'
    · obtain ⟨l, h1, h2⟩ := h.2.2 cs h'
      exact ⟨l, by rw [List.getElem?_take, if_pos hr]; exact h1, h2⟩
  | .fp row, v, _, h => by
    simp only [RV] at h ⊢
    obtain ⟨blk, off, h1, h2, h3⟩ := h
    exact ⟨blk, off, h1, fun hn => hg _ (h2 hn), RDs.move (fun b _ => hg b) (fun _ _ _ => rfl) row _ _ (fun _ => rfl) h3⟩
  | .vp o gn i off, v, hr, h => by
    simp only [RV] at h ⊢
    have hr : o < T.length := by simpa [A.refs] using hr
    refine ⟨h.1, hr, fun gc es els hc => ?_⟩
    rcases wkH_get hT hc with h' | h'
    · cases h'
    · obtain ⟨k1, k2⟩ := h.2.2 _ _ _ h'
      refine ⟨k1, fun e => ?_⟩
      obtain ⟨l, h1, h2⟩ := k2 e
      exact ⟨l, by rw [List.getElem?_take, if_pos hr]; exact h1, h2⟩
  | .vs o gn off, v, hr, h => by
    simp only [RV] at h ⊢
    have hr : o < T.length := by simpa [A.refs] using hr
    refine ⟨h.1, hr, fun gc es els hc => ?_⟩
    rcases wkH_get hT hc with h' | h'
    · cases h'
    · obtain ⟨k1, k2⟩ := h.2.2 _ _ _ h'
      refine ⟨k1, fun e => ?_⟩
      obtain ⟨l, a, h1, h2⟩ := k2 e
      exact ⟨l, a, by rw [List.getElem?_take, if_pos hr]; exact h1, h2⟩
  | .es, v, _, h => by simpa [RV] using h
  | .fn f fs cs, v, hr, h => by
    simp only [RV] at h ⊢
    obtain ⟨x, y, rfl, h1, h2⟩ := h
    have hr : A.refsL T.length fs = true ∧ A.refsL T.length cs = true := by simpa [A.refs] using hr
    exact ⟨x, y, rfl, RVs.wk hT hg fs _ hr.1 h1, RVs.wk hT hg cs _ hr.2 h2⟩
  | .nilp, v, _, h => by simpa [RV] using h
  | .nilf, v, _, h => by simpa [RV] using h
  | .mp o, v, hr, h => by
    simp only [RV] at h ⊢
    have hr : o < T.length := by simpa [A.refs] using hr
    refine ⟨h.1, hr, fun k es hc => ?_⟩
    rcases wkH_get hT hc with h' | h'
    · cases h'
    · obtain ⟨l, h1, h2⟩ := h.2.2 k es h'
      exact ⟨l, by rw [List.getElem?_take, if_pos hr]; exact h1, h2⟩
  | .nilm, v, _, h => by simpa [RV] using h
theorem RVs.wk {g g' : Nat → Prop} (hT : wkH H T) (hg : ∀ b, g b → g' b) : ∀ (xs : List A) (vs : List Value), A.refsL T.length xs = true → RVs ρ H g w xs vs → RVs (ρ.take T.length) T g' w xs vs
  | [], _, _, h => by simpa [RVs] using h
  | x :: xs, vs, hr, h => by
    simp only [RVs] at h ⊢
    obtain ⟨v, r, rfl, h1, h2⟩ := h
    simp only [A.refsL, Bool.and_eq_true] at hr
    exact ⟨v, r, rfl, RV.wk hT hg x v hr.1 h1, RVs.wk hT hg xs r hr.2 h2⟩
end
theorem RVcells.wk {g g' : Nat → Prop} (hT : wkH H T) (hg : ∀ b, g b → g' b) : ∀ (xs : List A) (blk off : Nat), A.refsL T.length xs = true → RVcells ρ H g w xs blk off → RVcells (ρ.take T.length) T g' w xs blk off
  | [], _, _, _, _ => by simp [RVcells]
  | x :: xs, blk, off, hr, h => by
    simp only [RVcells] at h ⊢
    obtain ⟨h1, ⟨u, hu, hx⟩, h2⟩ := h
    simp only [A.refsL, Bool.and_eq_true] at hr
    exact ⟨h1, ⟨u, hu, RV.wk hT hg x u hr.1 hx⟩, RVcells.wk hT hg xs blk _ hr.2 h2⟩
theorem RVrows.wk {g g' : Nat → Prop} (hT : wkH H T) (hg : ∀ b, g b → g' b) (es : Nat) : ∀ (els : List (List A)) (blk off : Nat), refsR T.length els = true → RVrows ρ H g w es els blk off → RVrows (ρ.take T.length) T g' w es els blk off
  | [], _, _, _, _ => by simp [RVrows]
  | r :: rs, blk, off, hr, h => by
    simp only [RVrows] at h ⊢
    simp only [refsR, Bool.and_eq_true] at hr
    exact ⟨h.1, RVcells.wk hT hg r blk off hr.1 h.2.1, RVrows.wk hT hg es rs blk _ hr.2 h.2.2⟩
theorem Ents.wk {g g' : Nat → Prop} (hT : wkH H T) (hg : ∀ b, g b → g' b) {k : IntKind} : ∀ (xs : List (Int × A)) (es : List MapEntry), refsE T.length xs = true → Ents ρ H g w k xs es → Ents (ρ.take T.length) T g' w k xs es
  | [], _, _, h => by simpa [Ents] using h
  | x :: xs, es, hr, h => by
    simp only [Ents] at h ⊢
    obtain ⟨e, r, rfl, h1, h2, h3, h4⟩ := h
    simp only [refsE, Bool.and_eq_true] at hr
    exact ⟨e, r, rfl, h1, h2, RV.wk hT hg _ _ hr.1 h3, Ents.wk hT hg xs r hr.2 h4⟩
theorem gd_wk (hT : wkH H T) : ∀ b, gd G ρ H b → gd G (ρ.take T.length) T b := fun _ h => ⟨h.1, fun ho => h.2 (owned_wk hT ho)⟩
theorem refsH_get {n : Nat} : ∀ {T : List Ob}, refsH n T = true → ∀ {o : Nat} {ob : Ob}, T[o]? = some ob → ob.refs n = true
  | [], _, _, _, h => by simp at h
  | _ :: _, h, 0, ob, hb => by
    simp only [refsH, Bool.and_eq_true] at h
    simp at hb
    subst hb
    exact h.1
  | _ :: _, h, o + 1, ob, hb => by
    simp only [refsH, Bool.and_eq_true] at h
    exact refsH_get h.2 (by simpa using hb)
theorem sim_wk (hS : SimH G wb ρ H w) (hT : wkH H T) (hr : refsH T.length T = true) : SimH G wb (ρ.take T.length) T w := by
  have hlen := wkH_len hT
  have up : ∀ (o : Nat) (l : Loc) (ob : Ob), (ρ.take T.length)[o]? = some l → T[o]? = some ob → ob ≠ .gone → ρ[o]? = some l ∧ H[o]? = some ob := by
    intro o l ob h1 h2 h3
    rcases wkH_get hT h2 with h | h
    · exact absurd h h3
    · exact ⟨(take_get h1).1, h⟩
  have ng : ∀ {ob : Ob} {l : Loc}, ob.owns l → ob ≠ .gone := by
    rintro ob l h rfl
    exact h
  refine ⟨by rw [List.length_take, hS.len]; omega, hS.base, ?_, ?_, ?_, hS.gup, ?_⟩
  · intro o l ob h1 h2
    by_cases hg : ob = .gone
    · subst hg; trivial
    · obtain ⟨k1, k2⟩ := up o l ob h1 h2 hg
      have hok := hS.ok o l ob k1 k2
      have hrf := refsH_get hr h2
      cases ob with
      | box cs =>
        simp only [ObOk] at hok ⊢
        obtain ⟨vs, T', e1, e2⟩ := hok
        exact ⟨vs, T', e1, RVs.wk hT (gd_wk hT) _ _ hrf e2⟩
      | vec gn es els =>
        simp only [ObOk] at hok ⊢
        obtain ⟨e1, e2, e3, e4, e5⟩ := hok
        exact ⟨e1, e2, e3, e4, RVrows.wk hT (gd_wk hT) _ _ _ _ hrf e5⟩
      | map k es =>
        simp only [ObOk] at hok ⊢
        obtain ⟨en, c, e1, e2⟩ := hok
        exact ⟨en, c, e1, Ents.wk hT (gd_wk hT) _ _ hrf e2⟩
      | gone => exact absurd rfl hg
  · intro o l ob h1 h2 h3
    obtain ⟨k1, k2⟩ := up o l ob h1 h2 (ng h3)
    exact hS.lt o l ob k1 k2 h3
  · intro o o' l l' ob ob' h1 h1' h2 h2' h3 h3' e
    obtain ⟨k1, k2⟩ := up o l ob h1 h2 (ng h3)
    obtain ⟨k1', k2'⟩ := up o' l' ob' h1' h2' (ng h3')
    exact hS.inj o o' l l' ob ob' k1 k1' k2 k2' h3 h3' e
  · intro o l ob h1 h2 h3
    obtain ⟨k1, k2⟩ := up o l ob h1 h2 (ng h3)
    exact hS.gown o l ob k1 k2 h3
theorem step_wk {ρ0 : List Loc} {H0 : List Ob} {w0 : World} (hs : Step ρ0 H0 w0 ρ H w) (hT : wkH H T) (hl : H0.length ≤ T.length) : Step ρ0 H0 w0 (ρ.take T.length) T w := by
  refine ⟨hs.os, hs.tape, hs.output, hs.size, hs.same, fun b hb ho => hs.own b hb (owned_wk hT ho), hl, ?_⟩
  intro o l ob h1 h2
  obtain ⟨l', ob', k1, k2, k3⟩ := hs.turn o l ob h1 h2
  have ho : o < T.length := by
    have : o < H0.length := (List.getElem?_eq_some_iff.1 h2).1
    omega
  refine ⟨l', T[o], by rw [List.getElem?_take, if_pos ho]; exact k1, by simp, ?_⟩
  rcases wkH_get hT (o := o) (ob := T[o]) (by simp) with h | h
  · left; exact h
  · rw [k2] at h
    cases h
    exact k3
theorem wkE_out : ∀ {env tm : List A} {vs : List Value} {g : Nat → Prop}, wkE env tm → RVs ρ H g w env vs → RVs ρ H g w tm vs
  | [], [], _, _, _, h => h
  | [], _ :: _, _, _, hw, _ => hw.elim
  | _ :: _, [], _, _, hw, _ => hw.elim
  | x :: xs, y :: ys, vs, g, hw, h => by
    simp only [RVs] at h ⊢
    obtain ⟨v, r, rfl, h1, h2⟩ := h
    refine ⟨v, r, rfl, ?_, wkE_out hw.2 h2⟩
    rcases hw.1 with rfl | rfl
    · simp [RV]
    · exact h1
end

/-- what is left is at least what the template says -/
structure Wk (env : List A) (H : List Ob) (tm : List A) (T : List Ob) : Prop where
  e : wkE env tm
  h : wkH H T
  re : A.refsL T.length tm = true
  rh : refsH T.length T = true

section
variable {P : Program} {wb : World} {Θ : List (Nat × TI)}
theorem TriS.wk {c : Code} {env tm : List A} {H T : List Ob} {Q : Ex → List A → List Ob → Prop} (hk : Wk env H tm T) (hl : H.length = T.length) (h : TriS P wb c tm T Q) : TriS P wb c env H Q := by
  refine ⟨fun G ρ a w hS hd hE => ?_⟩
  have hS' := sim_wk hS hk.h hk.rh
  have hE' := RVs.wk (g' := gd G (ρ.take T.length) T) hk.h (gd_wk hk.h) _ _ hk.re (wkE_out hk.e hE)
  exact wp_mono (h.out G _ a w hS' hd hE') fun _ _ _ hp => Post.after (G := G) (step_wk (.refl _ _ _) hk.h (by omega)) hp

/-- the loop from the head of its body -/
def Lp (P : Program) (b : Code) (Q : Exit → Act → World → Prop) (a : Act) (w : World) : Prop :=
  ∀ (fr : Frame) (k : List Item) (cs : List Frame), ∃ e a' w', Q e a' w' ∧ Arrives P (lone (fr.at a (.code b :: .inLoop b :: k)) cs w) fr k cs e a' w'
theorem lp_loop {b : Code} {Q : Exit → Act → World → Prop} {a : Act} {w : World} (h : Lp P b Q a w) : (Code.loop b).wp P Q a w :=
  fun fr k cs => let ⟨e, a', w', hq, harr⟩ := h fr k cs; ⟨e, a', w', hq, .of_steps (.one step_loop) harr⟩
theorem lp_round {b : Code} {Q : Exit → Act → World → Prop} {a : Act} {w : World} (h : b.wp P (Exit.then (Lp P b Q) Q) a w) : Lp P b Q a w := by
  intro fr k cs
  obtain ⟨e, a₁, w₁, hq, harr⟩ := h fr (.inLoop b :: k) cs
  cases e with
  | normal =>
    obtain ⟨e₂, a₂, w₂, hq₂, harr₂⟩ := hq fr k cs
    exact ⟨e₂, a₂, w₂, hq₂, .of_steps (Steps.trans harr (.one step_inLoop)) harr₂⟩
  | exit id => exact ⟨_, a₁, w₁, hq, .pass (x := .inLoop b) rfl (fun _ _ => .inl (by simp)) harr⟩
  | goto l => exact ⟨_, a₁, w₁, hq, .pass (x := .inLoop b) rfl (fun _ _ => .inl (by simp)) harr⟩
  | ret => exact ⟨_, a₁, w₁, hq, .pass (x := .inLoop b) rfl (fun _ _ => .inl (by simp)) harr⟩
  | panic ch => exact ⟨_, a₁, w₁, hq, .pass (x := .inLoop b) rfl (fun _ _ => .inl (by simp)) harr⟩
  | outgrown => exact ⟨_, a₁, w₁, hq, .pass (x := .inLoop b) rfl (fun _ _ => .inl (by simp)) harr⟩

structure TriL (P : Program) (wb : World) (b : Code) (env : List A) (H : List Ob) (Q : Ex → List A → List Ob → Prop) : Prop where
  out : ∀ G ρ a w, SimH G wb ρ H w → a.defers = [] → RVs ρ H (gd G ρ H) w env a.tmps.toList → Lp P b (Post G wb ρ H w Q) a w
theorem TriL.loop {b : Code} {env : List A} {H : List Ob} {Q : Ex → List A → List Ob → Prop} (h : TriL P wb b env H Q) : TriS P wb (.loop b) env H Q :=
  ⟨fun G ρ a w hS hd hE => lp_loop (h.out G ρ a w hS hd hE)⟩
theorem lp_mono {b : Code} {Q Q' : Exit → Act → World → Prop} {a : Act} {w : World} (h : Lp P b Q a w) (hq : ∀ e a w, Q e a w → Q' e a w) : Lp P b Q' a w :=
  fun fr k cs => let ⟨e, a', w', h1, h2⟩ := h fr k cs; ⟨e, a', w', hq _ _ _ h1, h2⟩

theorem round_out (hΘ : ΘOk P Θ) {G : Nat → Prop} {b : Code} {env : List A} {H : List Ob} {Q : Ex → List A → List Ob → Prop} {N : List A → List Ob → Prop} {ρ0 ρ : List Loc} {H0 : List Ob} {w0 w : World} {a : Act}
    (h : wpD P wb Θ b env H fun e env' H' => match e with
      | .normal => N env' H'
      | .exit i => Q (.exit i) env' H'
      | .ret => Q .ret env' H')
    (hS : SimH G wb ρ H w) (hd : a.defers = []) (hE : RVs ρ H (gd G ρ H) w env a.tmps.toList) (hs : Step ρ0 H0 w0 ρ H w)
    (hn : ∀ ρ' env' H' a' w', N env' H' → SimH G wb ρ' H' w' → a'.defers = [] → RVs ρ' H' (gd G ρ' H') w' env' a'.tmps.toList → Step ρ H w ρ' H' w' → Lp P b (Post G wb ρ0 H0 w0 Q) a' w') :
    Lp P b (Post G wb ρ0 H0 w0 Q) a w := by
  refine lp_round (wp_mono ((wpD_out hΘ b h).out G ρ a w hS hd hE) ?_)
  rintro e a2 w2 ⟨e', ρ2, env2, H2, q1, q2, q3, q4, q5, q6⟩
  cases e with
  | normal =>
    cases e' with
    | normal => exact hn ρ2 env2 H2 a2 w2 q2 q3 q4 q5 q6
    | exit i => exact q1.elim
    | ret => exact q1.elim
  | exit i =>
    cases e' with
    | exit j => exact ⟨.exit j, ρ2, env2, H2, q1, q2, q3, q4, q5, hs.trans q6⟩
    | normal => exact q1.elim
    | ret => exact q1.elim
  | ret =>
    cases e' with
    | ret => exact ⟨.ret, ρ2, env2, H2, q1, q2, q3, q4, q5, hs.trans q6⟩
    | normal => exact q1.elim
    | exit j => exact q1.elim
  | goto l => cases e' <;> exact q1.elim
  | panic l => cases e' <;> exact q1.elim
  | outgrown => cases e' <;> exact q1.elim

/-- one round, then the loop again -/
theorem unroll (hΘ : ΘOk P Θ) {b : Code} {env : List A} {H : List Ob} {Q : Ex → List A → List Ob → Prop}
    (h : wpD P wb Θ b env H fun e env' H' => match e with
      | .normal => TriL P wb b env' H' Q
      | .exit i => Q (.exit i) env' H'
      | .ret => Q .ret env' H') : TriL P wb b env H Q := by
  refine ⟨fun G ρ a w hS hd hE => round_out hΘ h hS hd hE (.refl _ _ _) ?_⟩
  intro ρ' env' H' a' w' hN k1 k2 k3 k4
  exact lp_mono (hN.out G ρ' a' w' k1 k2 k3) fun _ _ _ hp => Post.after (G := G) k4 hp

theorem TriL.wk {b : Code} {env tm : List A} {H T : List Ob} {Q : Ex → List A → List Ob → Prop} (hk : Wk env H tm T) (hl : H.length ≤ T.length) (h : TriL P wb b tm T Q) : TriL P wb b env H Q := by
  refine ⟨fun G ρ a w hS hd hE => ?_⟩
  have hS' := sim_wk hS hk.h hk.rh
  have hE' := RVs.wk (g' := gd G (ρ.take T.length) T) hk.h (gd_wk hk.h) _ _ hk.re (wkE_out hk.e hE)
  exact lp_mono (h.out G _ a w hS' hd hE') fun _ _ _ hp => Post.after (G := G) (step_wk (.refl _ _ _) hk.h hl) hp

theorem loop_rule (hΘ : ΘOk P Θ) {b : Code} {env : List A} {H : List Ob} {Q : Ex → List A → List Ob → Prop} {S : Type} (E : S → List A) (T : S → List Ob) (I : S → Prop) (μ : S → Nat) (s0 : S) (h0 : I s0)
    (hk : Wk env H (E s0) (T s0)) (hl : H.length ≤ (T s0).length) (N : S → List A → List Ob → Prop)
    (hN : ∀ s env' H', N s env' H' → ∃ s', I s' ∧ μ s' < μ s ∧ Wk env' H' (E s') (T s') ∧ (T s).length ≤ (T s').length)
    (round : ∀ s, I s → A.wfs (E s) → wfH (T s) → wpD P wb Θ b (E s) (T s) fun e env' H' => match e with
      | .normal => N s env' H'
      | .exit i => Q (.exit i) env' H'
      | .ret => Q .ret env' H') : TriL P wb b env H Q := by
  refine TriL.wk hk hl ⟨fun G ρ a w hS hd hE => ?_⟩
  have key : ∀ n, ∀ (ρ' : List Loc) (a' : Act) (w' : World) (s : S), μ s = n → I s → SimH G wb ρ' (T s) w' → a'.defers = [] → RVs ρ' (T s) (gd G ρ' (T s)) w' (E s) a'.tmps.toList → Step ρ (T s0) w ρ' (T s) w' →
      Lp P b (Post G wb ρ (T s0) w Q) a' w' := by
    intro n
    induction n using Nat.strongRecOn with
    | _ n ih =>
      intro ρ' a' w' s hn hI k1 k2 k3 k4
      refine round_out hΘ (round s hI (RVs.wf _ _ k3) k1.wf) k1 k2 k3 k4 ?_
      intro ρ2 env2 H2 a2 w2 hNs q1 q2 q3 q4
      obtain ⟨s2, i1, i2, i3, i4⟩ := hN _ _ _ hNs
      exact ih (μ s2) (by omega) (ρ2.take (T s2).length) a2 w2 s2 rfl i1 (sim_wk q1 i3.h i3.rh) q2 (RVs.wk i3.h (gd_wk i3.h) _ _ i3.re (wkE_out i3.e q3)) (k4.trans (step_wk q4 i3.h i4))
  exact key _ ρ a w s0 rfl h0 hS hd hE (.refl _ _ _)

/-! templates of a loop: slots that keep what they hold, slots that are told, the others forgotten -/
def tmpl : Nat → List A → List (Nat × A) → List Nat → List A
  | _, [], _, _ => []
  | i, x :: xs, u, ks => match u with
    | (q, v) :: u' => (match Nat.beq i q with
      | true => v :: tmpl (i + 1) xs u' ks
      | false => (match ks with
        | k :: ks' => (match Nat.beq i k with
          | true => x :: tmpl (i + 1) xs u ks'
          | false => .undef :: tmpl (i + 1) xs u ks)
        | [] => .undef :: tmpl (i + 1) xs u []))
    | [] => (match ks with
      | k :: ks' => (match Nat.beq i k with
        | true => x :: tmpl (i + 1) xs [] ks'
        | false => .undef :: tmpl (i + 1) xs [] ks)
      | [] => .undef :: tmpl (i + 1) xs [] [])
def tmplK : Nat → List A → List (Nat × A) → List Nat → (List A → Prop) → Prop
  | _, [], _, _, K => K []
  | i, x :: xs, u, ks, K => match u with
    | (q, v) :: u' => (match Nat.beq i q with
      | true => tmplK (i + 1) xs u' ks fun r => K (v :: r)
      | false => (match ks with
        | k :: ks' => (match Nat.beq i k with
          | true => tmplK (i + 1) xs u ks' fun r => K (x :: r)
          | false => tmplK (i + 1) xs u ks fun r => K (.undef :: r))
        | [] => tmplK (i + 1) xs u [] fun r => K (.undef :: r)))
    | [] => (match ks with
      | k :: ks' => (match Nat.beq i k with
        | true => tmplK (i + 1) xs [] ks' fun r => K (x :: r)
        | false => tmplK (i + 1) xs [] ks fun r => K (.undef :: r))
      | [] => tmplK (i + 1) xs [] [] fun r => K (.undef :: r))
theorem tmplK_out : ∀ (i : Nat) (env : List A) (u : List (Nat × A)) (ks : List Nat) {K : List A → Prop}, tmplK i env u ks K → K (tmpl i env u ks)
  | _, [], _, _, _, h => h
  | i, x :: xs, (q, v) :: u', [], K, h => by
    simp only [tmplK, tmpl] at h ⊢
    split at h
    · exact tmplK_out _ _ _ _ h
    · exact tmplK_out _ _ _ _ h
  | i, x :: xs, (q, v) :: u', k :: ks', K, h => by
    simp only [tmplK, tmpl] at h ⊢
    split at h
    · exact tmplK_out _ _ _ _ h
    · split at h
      · exact tmplK_out _ _ _ _ h
      · exact tmplK_out _ _ _ _ h
  | i, x :: xs, [], k :: ks', K, h => by
    simp only [tmplK, tmpl] at h ⊢
    split at h
    · exact tmplK_out _ _ _ _ h
    · exact tmplK_out _ _ _ _ h
  | i, x :: xs, [], [], K, h => by
    simp only [tmplK, tmpl] at h ⊢
    exact tmplK_out _ _ _ _ h
theorem tmpl_get : ∀ (i : Nat) (env : List A) (u : List (Nat × A)) (ks : List Nat) {j : Nat} {y : A}, (tmpl i env u ks)[j]? = some y → y = .undef ∨ (i + j, y) ∈ u ∨ (i + j ∈ ks ∧ env[j]? = some y)
  | _, [], _, _, _, _, h => by simp [tmpl] at h
  | i, x :: xs, u, ks, 0, y, h => by
    unfold tmpl at h
    split at h
    · rename_i q v u'
      split at h
      · rename_i e
        have e := Nat.eq_of_beq_eq_true e
        simp at h
        subst h
        right; left
        rw [Nat.add_zero, e]
        exact List.mem_cons_self
      · split at h
        · split at h
          · rename_i e
            have e := Nat.eq_of_beq_eq_true e
            simp at h
            subst h
            right; right
            exact ⟨by rw [e]; exact List.mem_cons_self, rfl⟩
          · simp at h; exact .inl h.symm
        · simp at h; exact .inl h.symm
    · split at h
      · split at h
        · rename_i e
          have e := Nat.eq_of_beq_eq_true e
          simp at h
          subst h
          right; right
          exact ⟨by rw [e]; exact List.mem_cons_self, rfl⟩
        · simp at h; exact .inl h.symm
      · simp at h; exact .inl h.symm
  | i, x :: xs, u, ks, j + 1, y, h => by
    have lift : ∀ (u0 : List (Nat × A)) (ks0 : List Nat), (∀ q, q ∈ u0 → q ∈ u) → (∀ q, q ∈ ks0 → q ∈ ks) → (tmpl (i + 1) xs u0 ks0)[j]? = some y → y = .undef ∨ (i + (j + 1), y) ∈ u ∨ (i + (j + 1) ∈ ks ∧ (x :: xs)[j + 1]? = some y) := by
      intro u0 ks0 h1 h2 h3
      have e : i + (j + 1) = i + 1 + j := by omega
      rw [e]
      rcases tmpl_get (i + 1) xs u0 ks0 h3 with h | h | h
      · exact .inl h
      · exact .inr (.inl (h1 _ h))
      · exact .inr (.inr ⟨h2 _ h.1, by simpa using h.2⟩)
    unfold tmpl at h
    split at h
    · rename_i q v u'
      split at h
      · exact lift u' ks (fun q hq => List.mem_cons_of_mem _ hq) (fun q hq => hq) (by simpa using h)
      · split at h
        · rename_i k ks'
          split at h
          · exact lift _ ks' (fun q hq => hq) (fun q hq => List.mem_cons_of_mem _ hq) (by simpa using h)
          · exact lift _ _ (fun q hq => hq) (fun q hq => hq) (by simpa using h)
        · exact lift _ _ (fun q hq => hq) (fun q hq => hq) (by simpa using h)
    · split at h
      · rename_i k ks'
        split at h
        · exact lift _ ks' (fun q hq => hq) (fun q hq => List.mem_cons_of_mem _ hq) (by simpa using h)
        · exact lift _ _ (fun q hq => hq) (fun q hq => hq) (by simpa using h)
      · exact lift _ _ (fun q hq => hq) (fun q hq => hq) (by simpa using h)
theorem tmpl_len : ∀ (i : Nat) (env : List A) (u : List (Nat × A)) (ks : List Nat), (tmpl i env u ks).length = env.length
  | _, [], _, _ => rfl
  | i, x :: xs, u, ks => by
    unfold tmpl
    split
    · split
      · simp [tmpl_len]
      · split
        · split <;> simp [tmpl_len]
        · simp [tmpl_len]
    · split
      · split <;> simp [tmpl_len]
      · simp [tmpl_len]
def sameLen : List A → List A → Prop → Prop
  | [], [], p => p
  | _ :: xs, _ :: ys, p => sameLen xs ys p
  | _, _, _ => False
def eqsK (env : List A) : List (Nat × A) → Prop → Prop
  | [], p => p
  | q :: u, p => getK env q.1 fun x => x = q.2 ∧ eqsK env u p
def keepsK (env' env : List A) : List Nat → Prop → Prop
  | [], p => p
  | j :: ks, p => getK env' j fun x => getK env j fun y => x = y ∧ keepsK env' env ks p
theorem sameLen_out : ∀ {xs ys : List A} {p : Prop}, sameLen xs ys p → xs.length = ys.length ∧ p
  | [], [], _, h => ⟨rfl, h⟩
  | [], _ :: _, _, h => h.elim
  | _ :: _, [], _, h => h.elim
  | _ :: xs, _ :: ys, p, h => by have := sameLen_out (xs := xs) (ys := ys) h; exact ⟨by simp [this.1], this.2⟩
theorem getK_some : ∀ {env : List A} {j : Nat} {K : A → Prop}, getK env j K → j < env.length → ∃ x, env[j]? = some x ∧ K x
  | [], _, _, _, h => by simp at h
  | x :: _, 0, K, h, _ => ⟨x, rfl, h⟩
  | _ :: xs, j + 1, K, h, hl => by
    obtain ⟨y, h1, h2⟩ := getK_some (env := xs) (j := j) h (by simpa using hl)
    exact ⟨y, by simpa using h1, h2⟩
theorem getK_any : ∀ {env : List A} {j : Nat} {K : A → Prop}, getK env j K → ∃ x, K x
  | [], _, _, h => ⟨_, h⟩
  | x :: _, 0, _, h => ⟨x, h⟩
  | _ :: xs, j + 1, _, h => getK_any (env := xs) (j := j) h
theorem eqsK_out : ∀ {env : List A} {u : List (Nat × A)} {p : Prop}, eqsK env u p → p ∧ ∀ q ∈ u, q.1 < env.length → env[q.1]? = some q.2
  | _, [], _, h => ⟨h, by simp⟩
  | env, q :: u, p, h => by
    simp only [eqsK] at h
    obtain ⟨x, _, h1⟩ := getK_any h
    obtain ⟨h2, h3⟩ := eqsK_out h1
    refine ⟨h2, ?_⟩
    intro r hr hl
    simp only [List.mem_cons] at hr
    rcases hr with rfl | hr
    · obtain ⟨y, k1, k2, _⟩ := getK_some h hl
      rw [k1, k2]
    · exact h3 r hr hl
theorem keepsK_out : ∀ {env' env : List A} {ks : List Nat} {p : Prop}, keepsK env' env ks p → env'.length = env.length → p ∧ ∀ j ∈ ks, ∀ y, env[j]? = some y → env'[j]? = some y
  | _, _, [], _, h, _ => ⟨h, by simp⟩
  | env', env, k :: ks, p, h, hl => by
    simp only [keepsK] at h
    obtain ⟨x, h1⟩ := getK_any h
    obtain ⟨y, h2⟩ := getK_any h1
    obtain ⟨h3, h4⟩ := keepsK_out h2.2 hl
    refine ⟨h3, ?_⟩
    intro j hj z hz
    simp only [List.mem_cons] at hj
    rcases hj with rfl | hj
    · have hlt : j < env.length := (List.getElem?_eq_some_iff.1 hz).1
      obtain ⟨x', k1, k2⟩ := getK_some h (by omega)
      obtain ⟨y', k3, k4⟩ := getK_some k2 hlt
      rw [k1, k4.1, ← k3, hz]
    · exact h4 j hj z hz
theorem wkE_of : ∀ {env tm : List A}, env.length = tm.length → (∀ (j : Nat) (y : A), tm[j]? = some y → y = .undef ∨ env[j]? = some y) → wkE env tm
  | [], [], _, _ => trivial
  | [], _ :: _, h, _ => by simp at h
  | _ :: _, [], h, _ => by simp at h
  | x :: xs, y :: ys, hl, h => by
    refine ⟨?_, wkE_of (by simpa using hl) fun j z hz => ?_⟩
    · rcases h 0 y rfl with h | h
      · exact .inl h
      · right; simpa using h
    · simpa using h (j + 1) z (by simpa using hz)
theorem wk_tmpl {env' env : List A} {u : List (Nat × A)} {ks : List Nat} {p : Prop} (h : sameLen env' env (eqsK env' u (keepsK env' env ks p))) : wkE env' (tmpl 0 env u ks) ∧ p := by
  obtain ⟨h1, h2⟩ := sameLen_out h
  obtain ⟨h3, h4⟩ := eqsK_out h2
  obtain ⟨h5, h6⟩ := keepsK_out h3 h1
  refine ⟨wkE_of (by rw [tmpl_len]; exact h1) ?_, h5⟩
  intro j y hy
  have hlt : j < env.length := by
    have := (List.getElem?_eq_some_iff.1 hy).1
    rwa [tmpl_len] at this
  rcases tmpl_get 0 env u ks hy with h | h | h
  · exact .inl h
  · rw [Nat.zero_add] at h
    exact .inr (h4 _ h (by simpa [h1] using hlt))
  · rw [Nat.zero_add] at h
    exact .inr (h6 _ h.1 _ h.2)

theorem loop_tmpl (hΘ : ΘOk P Θ) {b : Code} {env : List A} {H : List Ob} {Q : Ex → List A → List Ob → Prop} {S : Type} (u : S → List (Nat × A)) (ks : List Nat) (T : S → List Ob) (I : S → Prop) (μ : S → Nat) (s0 : S)
    (hl : H.length ≤ (T s0).length)
    (hr : ∀ s, A.refsL (T s).length (tmpl 0 env (u s) ks) = true ∧ refsH (T s).length (T s) = true)
    (h0 : I s0 ∧ sameLen env env (eqsK env (u s0) (wkH H (T s0))))
    (round : ∀ s, I s → wfH (T s) → tmplK 0 env (u s) ks fun E => A.wfs E → wpD P wb Θ b E (T s) fun e env' H' => match e with
      | .normal => ∃ s', I s' ∧ μ s' < μ s ∧ (T s).length ≤ (T s').length ∧ sameLen env' env (eqsK env' (u s') (keepsK env' env ks (wkH H' (T s'))))
      | .exit i => Q (.exit i) env' H'
      | .ret => Q .ret env' H') : TriS P wb (.loop b) env H Q := by
  have keepRefl : ∀ (ks : List Nat) (p : Prop), p → keepsK env env ks p := by
    intro ks
    induction ks with
    | nil => exact fun _ h => h
    | cons j ks ih =>
      intro p hp
      have key : ∀ (env : List A) (j : Nat) (p : Prop), p → getK env j fun x => getK env j fun y => x = y ∧ p := by
        intro env
        induction env with
        | nil => exact fun j p hp => ⟨rfl, hp⟩
        | cons x xs ih => intro j p hp; cases j with
          | zero => exact ⟨rfl, hp⟩
          | succ j => exact ih j p hp
      exact key _ _ _ (ih p hp)
  have h0' : sameLen env env (eqsK env (u s0) (keepsK env env ks (wkH H (T s0)))) := by
    obtain ⟨k1, k2⟩ := sameLen_out h0.2
    have m1 : ∀ (xs : List A) (p : Prop), p → sameLen xs xs p := by
      intro xs
      induction xs with
      | nil => exact fun _ h => h
      | cons x xs ih => exact fun p h => ih p h
    refine m1 _ _ ?_
    have m2 : ∀ (u : List (Nat × A)) {p p' : Prop}, (p → p') → eqsK env u p → eqsK env u p' := by
      intro u
      induction u with
      | nil => exact fun h hp => h hp
      | cons q u ih =>
        intro p p' hpp hq
        have gm : ∀ (env : List A) (j : Nat) {L L' : A → Prop}, (∀ x, L x → L' x) → getK env j L → getK env j L' := by
          intro env
          induction env with
          | nil => exact fun j _ _ h hk => h _ hk
          | cons x xs ih => intro j; cases j with
            | zero => exact fun h hk => h _ hk
            | succ j => exact fun h hk => ih j h hk
        exact gm _ _ (fun x hx => ⟨hx.1, ih hpp hx.2⟩) hq
    exact m2 _ (fun hp => keepRefl _ _ hp) k2
  obtain ⟨w1, w2⟩ := wk_tmpl h0'
  refine TriL.loop (loop_rule hΘ (fun s => tmpl 0 env (u s) ks) T I μ s0 h0.1 ⟨w1, w2, (hr s0).1, (hr s0).2⟩ hl
    (fun s env' H' => ∃ s', I s' ∧ μ s' < μ s ∧ (T s).length ≤ (T s').length ∧ sameLen env' env (eqsK env' (u s') (keepsK env' env ks (wkH H' (T s'))))) ?_ ?_)
  · rintro s env' H' ⟨s', i1, i2, i3, i4⟩
    obtain ⟨v1, v2⟩ := wk_tmpl i4
    exact ⟨s', i1, i2, ⟨v1, v2, (hr s').1, (hr s').2⟩, i3⟩
  intro s hI hE hH
  exact tmplK_out _ _ _ _ (round s hI hH) hE

/-! contracts -/
theorem CallOk.mono {f : Nat} {xs : List A} {H : List Ob} {R R' : A → List Ob → Prop} (h : CallOk P wb f xs H R) (hr : ∀ r H', R r H' → R' r H') : CallOk P wb f xs H R' :=
  ⟨h.ent, fun G ρ w vs hS hv => (h.out G ρ w vs hS hv).mono fun _ _ ⟨v, r, ρ', H', e, h1, h2⟩ => ⟨v, r, ρ', H', e, hr _ _ h1, h2⟩⟩
theorem callOk_wf {f : Nat} {xs : List A} {H : List Ob} {R : A → List Ob → Prop} (he : ∀ (args : Array Value) (w : World), (callFunc f args).run P w = .ok (.enter f args) w)
    (h : A.wfs xs → wfH H → CallOk P wb f xs H R) : CallOk P wb f xs H R :=
  ⟨he, fun G ρ w vs hS hv => (h (RVs.wf _ _ hv) hS.wf).out G ρ w vs hS hv⟩
theorem triS_wf {c : Code} {env : List A} {H : List Ob} {Q : Ex → List A → List Ob → Prop} (h : A.wfs env → wfH H → TriS P wb c env H Q) : TriS P wb c env H Q :=
  ⟨fun G ρ a w hS hd hE => (h (RVs.wf _ _ hE) hS.wf).out G ρ a w hS hd hE⟩

end
end Go.DL
