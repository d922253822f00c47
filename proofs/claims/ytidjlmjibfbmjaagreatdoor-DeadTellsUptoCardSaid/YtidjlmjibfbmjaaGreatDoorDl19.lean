/- An empty slice seen as a vector that has not grown yet. -/
import Derived.Test.YtidjlmjibfbmjaaGreatDoorDl18
namespace Go.DL
open Go.RowKit
theorem refsH_cons {n : Nat} {x : Ob} {xs : List Ob} (h1 : x.refs n = true) (h2 : refsH n xs = true) : refsH n (x :: xs) = true := by simp [refsH, h1, h2]
theorem refsR_map {α : Type} {n : Nat} {f : α → List A} (h : ∀ a, A.refsL n (f a) = true) : ∀ l : List α, refsR n (l.map f) = true
  | [] => rfl
  | a :: l => by simp [refsR, h a, refsR_map h l]
theorem rows_d {α : Type} (f : α → List D) (l : List α) : l.map (fun a => mapD (f a)) = (l.map f).map mapD := by simp
/-! where the evaluator stands before a list of objects that is not written out -/
theorem getO_in : ∀ {H : List Ob} {o : Nat} {ob : Ob} {K : Ob → Prop}, H[o]? = some ob → K ob → getO H o K
  | [], _, _, _, h, _ => by simp at h
  | x :: _, 0, _, _, h, hk => by simp at h; subst h; exact hk
  | _ :: xs, o + 1, _, _, h, hk => getO_in (H := xs) (o := o) (by simpa using h) hk
theorem setK_in {α : Type} {l : List α} {n : Nat} {v : α} {K : List α → Prop} (h : K (l.set n v)) : setK l n v K := by rw [setK_eq]; exact h
theorem snocK_in {α : Type} : ∀ {l : List α} {v : α} {K : List α → Prop}, K (l ++ [v]) → snocK l v K
  | [], _, _, h => h
  | x :: xs, v, K, h => by simp only [snocK]; exact snocK_in (l := xs) (by simpa using h)
theorem lenK_in : ∀ {l : List Ob} {n : Nat} {K : Nat → Prop}, K (n + l.length) → lenK l n K
  | [], n, K, h => by simp only [lenK]; exact nk_in (by simpa using h)
  | x :: xs, n, K, h => by
    simp only [lenK]
    refine lenK_in (l := xs) ?_
    rw [List.length_cons] at h
    rw [show n + 1 + xs.length = n + (xs.length + 1) by omega]
    exact h

section
variable {P : Program} {wb : World}
theorem lift_es {c : Code} {env : List A} {H : List Ob} {Q : Ex → List A → List Ob → Prop} (d es : Nat) (hes : Nat.blt 0 es = true)
    (h : getK env d fun x => x = .es ∧ lenK H 0 fun n => setK env d (.vs n 0 0) fun env' => snocK H (.vec 0 es []) fun H' => TriS P wb c env' H' Q) : TriS P wb c env H Q := by
  rw [getK_eq] at h
  obtain ⟨hx, h⟩ := h
  have h := lenK_out _ _ _ h
  rw [Nat.zero_add] at h
  have h := snocK_out _ _ _ (setK_out _ _ _ _ h)
  have hes : 0 < es := by simpa using hes
  refine ⟨fun G ρ a w hS hd hE => ?_⟩
  have hs := step_push (w' := w) hS ⟨w.heap.size, 0, 0⟩ (.vec 0 es []) rfl rfl rfl (Nat.le_refl _) (fun _ _ => rfl) (fun ho => by
    have ho : 0 < 0 := ho
    omega)
  have hS' := sim_push (w' := w) hS ⟨w.heap.size, 0, 0⟩ (.vec 0 es []) rfl rfl rfl (Nat.le_refl _) (fun _ _ => rfl) (fun ho => by
    have ho : 0 < 0 := ho
    omega) (by
    simp only [ObOk]
    exact ⟨Nat.le_refl _, Nat.zero_le _, hes, fun h => by omega, by simp [RVrows]⟩)
  have hE1 := hs.rvs hS.len hE
  have hv : env[d]? = some .es := by
    cases he : env[d]? with
    | none => rw [he] at hx; cases hx
    | some z => rw [he] at hx; simp at hx; rw [hx]
  obtain ⟨v, hv1, hv2⟩ := hE1.get hv
  have hE2 := hE1.set d (x := .vs H.length 0 0) (v := v) (by
    simp only [RV] at hv2 ⊢
    obtain ⟨ad, rfl⟩ := hv2
    refine ⟨⟨_, _, _, rfl⟩, by simp, fun gc es' els' hc => ?_⟩
    rw [getElem?_snoc, if_neg (by omega), if_pos rfl] at hc
    cases hc
    refine ⟨Nat.le_refl _, fun _ => ⟨⟨w.heap.size, 0, 0⟩, ad, ?_, Nat.zero_le _, by simp, fun h => by simp at h⟩⟩
    rw [getElem?_snoc, hS.len, if_neg (by omega), if_pos rfl])
  rw [set_self hv1] at hE2
  exact wp_mono (h.out G _ a w hS' hd hE2) fun _ _ _ hp => Post.after (G := G) hs hp
/-- behind a loop that is left by an exit, a vector in a slot may become a plain list -/
theorem after_frz {c : Code} {env : List A} {H : List Ob} {Q : Ex → List A → List Ob → Prop} (d : Nat)
    (h : TriS P wb c env H fun e env' H' => match e with
      | .exit i => getK env' d fun x => toDK x H' fun y H'' => setK env' d (.d y) fun env'' => Q (.exit i) env'' H''
      | .normal => Q .normal env' H'
      | .ret => Q .ret env' H') : TriS P wb c env H Q := by
  refine ⟨fun G ρ a w hS hd hE => wp_mono (h.out G ρ a w hS hd hE) ?_⟩
  rintro e a1 w1 ⟨e', ρ', env', H', h1, h2, h3, h4, h5, h6⟩
  cases e' with
  | normal => exact ⟨.normal, ρ', env', H', h1, h2, h3, h4, h5, h6⟩
  | ret => exact ⟨.ret, ρ', env', H', h1, h2, h3, h4, h5, h6⟩
  | exit i =>
    simp only at h2
    obtain ⟨x, h7, hx⟩ := getK_out h5 d _ h2
    obtain ⟨y, H'', k1, k2, k3, k4⟩ := toDK_out h3 hx h7
    have k1 := setK_out _ _ _ _ k1
    have h8 := k4.rvs h3.len h5
    have h9 := h8.set d (x := .d y) (v := a1.tmps.toList.getD d undef) (by simp only [RV]; exact k3)
    have e1 : a1.tmps.toList.set d (a1.tmps.toList.getD d undef) = a1.tmps.toList := by
      by_cases hlt : d < a1.tmps.toList.length
      · rw [List.getD_eq_getElem?_getD]
        exact set_self (by rw [List.getElem?_eq_getElem hlt]; rfl)
      · rw [List.set_eq_of_length_le (by omega)]
    rw [e1] at h9
    exact ⟨.exit i, ρ', _, H'', h1, k1, k2, h4, h9, h6.trans k4⟩
end
end Go.DL
