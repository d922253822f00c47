/- Copies of slices. -/
import Derived.Test.YtidjlmjibfbmjaaGreatDoorDl21
namespace Go.DL
open Go.RowKit
section
variable {P : Program} {wb : World}
theorem callOk_lift {f : Nat} {xs : List A} {H : List Ob} {K : A → List Ob → Prop} (es : Nat) (hes : 0 < es)
    (h : CallOk P wb f xs H fun r H' => (r = .es ∧ K (.vs H'.length 0 0) (H' ++ [.vec 0 es []])) ∨ K r H') : CallOk P wb f xs H K := by
  refine ⟨h.ent, fun G ρ w vs hS hv => (h.out G ρ w vs hS hv).mono ?_⟩
  rintro e w' ⟨v, r, ρ', H', rfl, hk, h2, h3, h4⟩
  rcases hk with ⟨rfl, hk⟩ | hk
  · have hs := step_push (w' := w') h2 ⟨w'.heap.size, 0, 0⟩ (.vec 0 es []) rfl rfl rfl (Nat.le_refl _) (fun _ _ => rfl) (fun ho => by
      have ho : 0 < 0 := ho
      omega)
    have hS' := sim_push (w' := w') h2 ⟨w'.heap.size, 0, 0⟩ (.vec 0 es []) rfl rfl rfl (Nat.le_refl _) (fun _ _ => rfl) (fun ho => by
      have ho : 0 < 0 := ho
      omega) (by
      simp only [ObOk]
      exact ⟨Nat.le_refl _, Nat.zero_le _, hes, fun h => by omega, by simp [RVrows]⟩)
    refine ⟨v, _, _, _, rfl, hk, hS', ?_, h4.trans hs⟩
    simp only [RV] at h3 ⊢
    obtain ⟨ad, rfl⟩ := h3
    refine ⟨⟨_, _, _, rfl⟩, by simp, fun gc es' els' hc => ?_⟩
    rw [getElem?_snoc, if_neg (by omega), if_pos rfl] at hc
    cases hc
    refine ⟨Nat.le_refl _, fun _ => ⟨⟨w'.heap.size, 0, 0⟩, ad, ?_, Nat.zero_le _, by simp, fun h => by simp at h⟩⟩
    rw [getElem?_snoc, h2.len, if_neg (by omega), if_pos rfl]
  · exact ⟨v, r, ρ', H', rfl, hk, h2, h3, h4⟩
end
/-- what a copy of a slice answers: a fresh vector -/
def CloneOk (f es bytes : Nat) : Prop := ∀ (wb : World) (x : A) (H : List Ob) (K : A → List Ob → Prop),
  (rowsK x H fun ys => (∀ r ∈ ys, r.length = es) ∧ ys.length * bytes ≤ 140737488355328 ∧ K (.vs H.length 0 0) (H ++ [.vec 0 es ys])) → CallOk Go.Proofs.Tryz.prog wb f [x] H K
set_option maxRecDepth 100000 in
theorem clone57 : CloneOk 57 1 8 := by
  intro wb x H K h
  refine callOk_lift 1 (by decide) (callOk_intro Θok Go.Proofs.Tryz.func57 Go.Proofs.Tryz.call57 ?_)
  unfold rowsK at h
  split at h
  · split at h
    · rename_i ys
      conv => whnf
      intro t ht
      cases t with
      | true =>
        conv => whnf
        obtain rfl := ht rfl
        exact .inl ⟨rfl, h.2.2⟩
      | false =>
        conv => whnf
        refine ⟨h.1, h.2.1, lenK_in (snocK_in ?_)⟩
        conv => whnf
        rw [Nat.zero_add]
        exact .inr h.2.2
    · exact h.elim
  · conv => whnf
    intro t
    cases t with
    | true =>
      conv => whnf
      exact .inl ⟨rfl, h.2.2⟩
    | false =>
      conv => whnf
      refine ⟨h.1, h.2.1, lenK_in (snocK_in ?_)⟩
      conv => whnf
      rw [Nat.zero_add]
      exact .inr h.2.2
  · obtain ⟨ob, hob, h⟩ := getO_out _ _ _ h
    cases ob with
    | vec g' es els =>
      obtain ⟨rfl, h⟩ := h
      conv => whnf
      refine getO_in hob ?_
      conv => whnf
      refine ⟨rfl, ?_⟩
      intro t ht
      cases t with
      | true =>
        conv => whnf
        rw [dropN_eq, List.drop_eq_nil_of_le (Nat.le_of_eq (ht rfl))] at h
        exact .inl ⟨rfl, h.2.2⟩
      | false =>
        conv => whnf
        refine getO_in hob ?_
        conv => whnf
        refine ⟨rfl, h.1, h.2.1, lenK_in (snocK_in ?_)⟩
        conv => whnf
        rw [Nat.zero_add]
        exact .inr h.2.2
    | _ => exact h.elim
  · exact h.elim
set_option maxRecDepth 100000 in
theorem clone58 : CloneOk 58 1 8 := by
  intro wb x H K h
  refine callOk_lift 1 (by decide) (callOk_intro Θok Go.Proofs.Tryz.func58 Go.Proofs.Tryz.call58 ?_)
  unfold rowsK at h
  split at h
  · split at h
    · rename_i ys
      conv => whnf
      intro t ht
      cases t with
      | true =>
        conv => whnf
        obtain rfl := ht rfl
        exact .inl ⟨rfl, h.2.2⟩
      | false =>
        conv => whnf
        refine ⟨h.1, h.2.1, lenK_in (snocK_in ?_)⟩
        conv => whnf
        rw [Nat.zero_add]
        exact .inr h.2.2
    · exact h.elim
  · conv => whnf
    intro t
    cases t with
    | true =>
      conv => whnf
      exact .inl ⟨rfl, h.2.2⟩
    | false =>
      conv => whnf
      refine ⟨h.1, h.2.1, lenK_in (snocK_in ?_)⟩
      conv => whnf
      rw [Nat.zero_add]
      exact .inr h.2.2
  · obtain ⟨ob, hob, h⟩ := getO_out _ _ _ h
    cases ob with
    | vec g' es els =>
      obtain ⟨rfl, h⟩ := h
      conv => whnf
      refine getO_in hob ?_
      conv => whnf
      refine ⟨rfl, ?_⟩
      intro t ht
      cases t with
      | true =>
        conv => whnf
        rw [dropN_eq, List.drop_eq_nil_of_le (Nat.le_of_eq (ht rfl))] at h
        exact .inl ⟨rfl, h.2.2⟩
      | false =>
        conv => whnf
        refine getO_in hob ?_
        conv => whnf
        refine ⟨rfl, h.1, h.2.1, lenK_in (snocK_in ?_)⟩
        conv => whnf
        rw [Nat.zero_add]
        exact .inr h.2.2
    | _ => exact h.elim
  · exact h.elim
end Go.DL
