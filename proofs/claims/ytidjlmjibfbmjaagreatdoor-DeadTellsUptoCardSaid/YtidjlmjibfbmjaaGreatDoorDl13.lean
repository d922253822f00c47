/- Contracts of functions that are called with plain values. -/
import Derived.Test.YtidjlmjibfbmjaaGreatDoorDl12
namespace Go.DL
open Go.RowKit

mutual
/-- fresh vectors become plain lists -/
def frzK : A → List Ob → (A → List Ob → Prop) → Prop
  | .agg cs, H, K => frzsK cs H fun ys H' => K (.agg ys) H'
  | .tup cs, H, K => frzsK cs H fun ys H' => K (.tup ys) H'
  | .vs o g off, H, K => toDK (.vs o g off) H fun y H' => K (.d y) H'
  | .es, H, K => K (.d (.sl [])) H
  | .d x, H, K => K (.d x) H
  | .nilp, H, K => K .nilp H
  | .ptr o off, H, K => K (.ptr o off) H
  | .undef, _, _ => False
  | .fp r, H, K => K (.fp r) H
  | .vp .., _, _ => False
  | .fn f fs cs, H, K => frzsK fs H fun ys H' => frzsK cs H' fun zs H'' => K (.fn f ys zs) H''
  | .nilf, H, K => K .nilf H
  | .mp o, H, K => K (.mp o) H
  | .nilm, H, K => K .nilm H
def frzsK : List A → List Ob → (List A → List Ob → Prop) → Prop
  | [], H, K => K [] H
  | x :: xs, H, K => frzK x H fun y H' => frzsK xs H' fun ys H'' => K (y :: ys) H''
end
mutual
def A.pure : A → Bool
  | .ptr .. => false
  | .vp .. => false
  | .vs .. => false
  | .mp _ => false
  | .agg cs => A.pureL cs
  | .tup cs => A.pureL cs
  | .fn _ fs cs => A.pureL fs && A.pureL cs
  | _ => true
def A.pureL : List A → Bool
  | [] => true
  | x :: xs => x.pure && A.pureL xs
end
def D.flat : D → Bool
  | .sl _ => false
  | _ => true
mutual
def A.flat : A → Bool
  | .d x => x.flat
  | .agg cs => A.flatL cs
  | .tup cs => A.flatL cs
  | .nilp => true
  | .nilf => true
  | .nilm => true
  | _ => false
def A.flatL : List A → Bool
  | [] => true
  | x :: xs => x.flat && A.flatL xs
end

section
variable {P : Program} {wb : World} {G : Nat → Prop} {ρ : List Loc} {w : World}
mutual
theorem frzK_out : ∀ (x : A) {H : List Ob} {v : Value} {K : A → List Ob → Prop}, SimH G wb ρ H w → RV ρ H (gd G ρ H) w x v → frzK x H K → ∃ y H', K y H' ∧ SimH G wb ρ H' w ∧ RV ρ H' (gd G ρ H') w y v ∧ Step ρ H w ρ H' w
  | .agg cs, H, v, K, hS, h, hk => by
    simp only [RV] at h
    obtain ⟨vs, rfl, h⟩ := h
    simp only [frzK] at hk
    obtain ⟨ys, H', h1, h2, h3, h4⟩ := frzsK_out cs hS h hk
    exact ⟨_, H', h1, h2, by simp only [RV]; exact ⟨_, rfl, h3⟩, h4⟩
  | .tup cs, H, v, K, hS, h, hk => by
    simp only [RV] at h
    obtain ⟨vs, rfl, h⟩ := h
    simp only [frzK] at hk
    obtain ⟨ys, H', h1, h2, h3, h4⟩ := frzsK_out cs hS h hk
    exact ⟨_, H', h1, h2, by simp only [RV]; exact ⟨_, rfl, h3⟩, h4⟩
  | .vs o g off, H, v, K, hS, h, hk => by
    simp only [frzK] at hk
    obtain ⟨y, H', h1, h2, h3, h4⟩ := toDK_out hS h hk
    exact ⟨_, H', h1, h2, by simp only [RV]; exact h3, h4⟩
  | .es, H, v, K, hS, h, hk => by
    simp only [frzK] at hk
    obtain ⟨y, H', h1, h2, h3, h4⟩ := toDK_out (K := fun y H' => K (.d y) H') hS h hk
    exact ⟨_, H', h1, h2, by simp only [RV]; exact h3, h4⟩
  | .d x, H, v, K, hS, h, hk => ⟨_, H, hk, hS, h, .refl _ _ _⟩
  | .nilp, H, v, K, hS, h, hk => ⟨_, H, hk, hS, h, .refl _ _ _⟩
  | .ptr o off, H, v, K, hS, h, hk => ⟨_, H, hk, hS, h, .refl _ _ _⟩
  | .undef, _, _, _, _, _, hk => by simp only [frzK] at hk
  | .fp r, H, v, K, hS, h, hk => ⟨_, H, hk, hS, h, .refl _ _ _⟩
  | .vp .., _, _, _, _, _, hk => by simp only [frzK] at hk
  | .fn f fs cs, H, v, K, hS, h, hk => by
    simp only [RV] at h
    obtain ⟨x, y, rfl, h1, h2⟩ := h
    simp only [frzK] at hk
    obtain ⟨ys, H', k1, k2, k3, k4⟩ := frzsK_out fs hS h1 hk
    obtain ⟨zs, H'', l1, l2, l3, l4⟩ := frzsK_out cs k2 (k4.rvs hS.len h2) k1
    exact ⟨_, H'', l1, l2, by simp only [RV]; exact ⟨_, _, rfl, l4.rvs k2.len k3, l3⟩, k4.trans l4⟩
  | .nilf, H, v, K, hS, h, hk => ⟨_, H, hk, hS, h, .refl _ _ _⟩
  | .mp o, H, v, K, hS, h, hk => ⟨_, H, hk, hS, h, .refl _ _ _⟩
  | .nilm, H, v, K, hS, h, hk => ⟨_, H, hk, hS, h, .refl _ _ _⟩
theorem frzsK_out : ∀ (xs : List A) {H : List Ob} {vs : List Value} {K : List A → List Ob → Prop}, SimH G wb ρ H w → RVs ρ H (gd G ρ H) w xs vs → frzsK xs H K → ∃ ys H', K ys H' ∧ SimH G wb ρ H' w ∧ RVs ρ H' (gd G ρ H') w ys vs ∧ Step ρ H w ρ H' w
  | [], H, vs, K, hS, h, hk => ⟨[], H, hk, hS, h, .refl _ _ _⟩
  | x :: xs, H, vs, K, hS, h, hk => by
    simp only [RVs] at h
    obtain ⟨v, r, rfl, h1, h2⟩ := h
    simp only [frzsK] at hk
    obtain ⟨y, H', k1, k2, k3, k4⟩ := frzK_out x hS h1 hk
    obtain ⟨ys, H'', l1, l2, l3, l4⟩ := frzsK_out xs k2 (k4.rvs hS.len h2) k1
    exact ⟨_, H'', l1, l2, by simp only [RVs]; exact ⟨_, _, rfl, l4.rv k2.len k3, l3⟩, k4.trans l4⟩
end
mutual
theorem RV.pure {ρ ρ' : List Loc} {H H' : List Ob} {g g' : Nat → Prop} (hg : ∀ b, g b → g' b) : ∀ (x : A) (v : Value), x.pure = true → RV ρ H g w x v → RV ρ' H' g' w x v
  | .undef, _, _, _ => by simp [RV]
  | .d x, v, _, h => by simp only [RV] at h ⊢; exact RD.move (fun b _ => hg b) (fun _ _ _ => rfl) x v h
  | .agg cs, v, hr, h => by
    simp only [RV] at h ⊢
    obtain ⟨vs, rfl, h⟩ := h
    exact ⟨vs, rfl, RVs.pure hg cs _ hr h⟩
  | .tup cs, v, hr, h => by
    simp only [RV] at h ⊢
    obtain ⟨vs, rfl, h⟩ := h
    exact ⟨vs, rfl, RVs.pure hg cs _ hr h⟩
  | .ptr .., _, hr, _ => by simp [A.pure] at hr
  | .fp row, v, _, h => by
    simp only [RV] at h ⊢
    obtain ⟨blk, off, h1, h2, h3⟩ := h
    exact ⟨blk, off, h1, fun hn => hg _ (h2 hn), RDs.move (fun b _ => hg b) (fun _ _ _ => rfl) row _ _ (fun _ => rfl) h3⟩
  | .vp .., _, hr, _ => by simp [A.pure] at hr
  | .vs .., _, hr, _ => by simp [A.pure] at hr
  | .es, v, _, h => by simpa [RV] using h
  | .fn f fs cs, v, hr, h => by
    simp only [RV] at h ⊢
    obtain ⟨x, y, rfl, h1, h2⟩ := h
    have hr : A.pureL fs = true ∧ A.pureL cs = true := by simpa [A.pure] using hr
    exact ⟨x, y, rfl, RVs.pure hg fs _ hr.1 h1, RVs.pure hg cs _ hr.2 h2⟩
  | .nilp, v, _, h => by simpa [RV] using h
  | .nilf, v, _, h => by simpa [RV] using h
  | .mp _, _, hr, _ => by simp [A.pure] at hr
  | .nilm, v, _, h => by simpa [RV] using h
theorem RVs.pure {ρ ρ' : List Loc} {H H' : List Ob} {g g' : Nat → Prop} (hg : ∀ b, g b → g' b) : ∀ (xs : List A) (vs : List Value), A.pureL xs = true → RVs ρ H g w xs vs → RVs ρ' H' g' w xs vs
  | [], _, _, h => by simpa [RVs] using h
  | x :: xs, vs, hr, h => by
    simp only [RVs] at h ⊢
    obtain ⟨v, r, rfl, h1, h2⟩ := h
    simp only [A.pureL, Bool.and_eq_true] at hr
    exact ⟨v, r, rfl, RV.pure hg x v hr.1 h1, RVs.pure hg xs r hr.2 h2⟩
end
mutual
theorem RV.flat {ρ ρ' : List Loc} {H H' : List Ob} {g g' : Nat → Prop} {w w' : World} : ∀ (x : A) (v : Value), x.flat = true → RV ρ H g w x v → RV ρ' H' g' w' x v
  | .undef, _, hr, _ => by simp [A.flat] at hr
  | .d x, v, hr, h => by
    simp only [RV] at h ⊢
    cases x with
    | sl els => simp [A.flat, D.flat] at hr
    | b x => simpa [RD] using h
    | i k n => simpa [RD] using h
    | s x => simpa [RD] using h
  | .agg cs, v, hr, h => by
    simp only [RV] at h ⊢
    obtain ⟨vs, rfl, h⟩ := h
    exact ⟨vs, rfl, RVs.flat cs _ hr h⟩
  | .tup cs, v, hr, h => by
    simp only [RV] at h ⊢
    obtain ⟨vs, rfl, h⟩ := h
    exact ⟨vs, rfl, RVs.flat cs _ hr h⟩
  | .ptr .., _, hr, _ => by simp [A.flat] at hr
  | .fp _, _, hr, _ => by simp [A.flat] at hr
  | .vp .., _, hr, _ => by simp [A.flat] at hr
  | .vs .., _, hr, _ => by simp [A.flat] at hr
  | .es, _, hr, _ => by simp [A.flat] at hr
  | .fn .., _, hr, _ => by simp [A.flat] at hr
  | .nilp, v, _, h => by simpa [RV] using h
  | .nilf, v, _, h => by simpa [RV] using h
  | .mp _, _, hr, _ => by simp [A.flat] at hr
  | .nilm, v, _, h => by simpa [RV] using h
theorem RVs.flat {ρ ρ' : List Loc} {H H' : List Ob} {g g' : Nat → Prop} {w w' : World} : ∀ (xs : List A) (vs : List Value), A.flatL xs = true → RVs ρ H g w xs vs → RVs ρ' H' g' w' xs vs
  | [], _, _, h => by simpa [RVs] using h
  | x :: xs, vs, hr, h => by
    simp only [RVs] at h ⊢
    obtain ⟨v, r, rfl, h1, h2⟩ := h
    simp only [A.flatL, Bool.and_eq_true] at hr
    exact ⟨v, r, rfl, RV.flat x v hr.1 h1, RVs.flat xs r hr.2 h2⟩
end

theorem callOk_frz {f : Nat} {xs : List A} {H : List Ob} {R : A → List Ob → Prop} (h : CallOk P wb f xs H fun r H' => frzK r H' R) : CallOk P wb f xs H R := by
  refine ⟨h.ent, fun G ρ w vs hS hv => (h.out G ρ w vs hS hv).mono ?_⟩
  rintro e w' ⟨v, r, ρ', H', rfl, h1, h2, h3, h4⟩
  obtain ⟨y, H'', k1, k2, k3, k4⟩ := frzK_out r h2 h3 h1
  exact ⟨v, y, ρ', H'', rfl, k1, k2, k3, h4.trans k4⟩
theorem callOk_frzArgs {f : Nat} {xs : List A} {H : List Ob} {R : A → List Ob → Prop} (he : ∀ (args : Array Value) (w : World), (callFunc f args).run P w = .ok (.enter f args) w)
    (h : frzsK xs H fun ys H' => CallOk P wb f ys H' R) : CallOk P wb f xs H R := by
  refine ⟨he, fun G ρ w vs hS hv => ?_⟩
  obtain ⟨ys, H', k1, k2, k3, k4⟩ := frzsK_out xs hS hv h
  refine (k1.out G ρ w vs k2 k3).mono ?_
  rintro e w' ⟨v, r, ρ', H'', rfl, h1, h2, h3, h4⟩
  exact ⟨v, r, ρ', H'', rfl, h1, h2, h3, k4.trans h4⟩
theorem callOk_trunc {f : Nat} {xs : List A} {H : List Ob} {R : A → List Ob → Prop}
    (h : CallOk P wb f xs H fun r H' => ∃ T, wkH H' T ∧ refsH T.length T = true ∧ r.refs T.length = true ∧ H.length ≤ T.length ∧ R r T) : CallOk P wb f xs H R := by
  refine ⟨h.ent, fun G ρ w vs hS hv => (h.out G ρ w vs hS hv).mono ?_⟩
  rintro e w' ⟨v, r, ρ', H', rfl, ⟨T, t1, t2, t3, t4, t5⟩, h2, h3, h4⟩
  exact ⟨v, r, _, T, rfl, t5, sim_wk h2 t1 t2, RV.wk t1 (gd_wk t1) _ _ t3 h3, step_wk h4 t1 t4⟩

/-- the world at a call, seen by a callee that is given plain values only -/
theorem sim_bare {G' : Nat → Prop} (w : World) (hg : ∀ b, w.heap.size ≤ b → G' b) : SimH G' w [] [] w :=
  ⟨rfl, .refl _ _, fun o l ob h _ => by simp at h, fun o l ob h _ _ => by simp at h, fun o o' l l' ob ob' h _ _ _ _ _ _ => by simp at h, hg, fun o l ob h _ _ => by simp at h⟩
theorem not_owned_nil {b : Nat} : ¬ owned [] [] b := by
  rintro ⟨o, l, ob, h, _⟩
  simp at h

theorem callOk_pure {f : Nat} {xs : List A} {H : List Ob} {K : A → List Ob → Prop} (h : ∀ wb', CallOk P wb' f xs [] fun r _ => r.pure = true ∧ K r H) (hp : A.pureL xs = true) : CallOk P wb f xs H K := by
  refine ⟨(h wb).ent, fun G ρ w vs hS hv => ?_⟩
  have hs0 := sim_bare (G' := gd G ρ H) w (fun b hb => ⟨hS.gup b hb, fun ho => by have := owned_lt hS ho; omega⟩)
  refine ((h w).out _ [] w vs hs0 (RVs.pure (fun b hb => ⟨hb, not_owned_nil⟩) _ _ hp hv)).mono ?_
  rintro e w' ⟨v, r, ρ', H', rfl, ⟨hr, hk⟩, h2, h3, h4⟩
  have b1 := h2.base
  refine ⟨v, r, ρ, H, rfl, hk, sim_still hS b1.os b1.tape b1.output b1.size b1.block, RV.pure (fun b hb => hb.1) _ _ hr h3, step_still b1.os b1.tape b1.output b1.size b1.block⟩

/-- plain images of the arguments, the objects staying as they are -/
def lendK (H : List Ob) : List A → (List A → Prop) → Prop
  | [], K => K []
  | x :: xs, K => match x with
    | .vs o g off => getO H o fun ob => match ob with
      | .vec g' _ els => g = g' ∧ ∃ rows : List (List D), dropN off els = rows.map mapD ∧ lendK H xs fun ys => K (.d (.sl rows) :: ys)
      | _ => False
    | .es => lendK H xs fun ys => K (.d (.sl []) :: ys)
    | x => match x.pure with
      | true => lendK H xs fun ys => K (x :: ys)
      | false => False
theorem lendK_out {H : List Ob} (hS : SimH G wb ρ H w) : ∀ (xs : List A) {vs : List Value} {K : List A → Prop}, RVs ρ H (gd G ρ H) w xs vs → lendK H xs K → ∃ ys, K ys ∧ RVs [] [] (gd (fun _ => True) [] []) w ys vs
  | [], vs, K, h, hk => ⟨[], hk, by simpa [RVs] using h⟩
  | x :: xs, vs, K, h, hk => by
    simp only [RVs] at h
    obtain ⟨v, r, rfl, h1, h2⟩ := h
    have gen : x.pure = true → (lendK H xs fun ys => K (x :: ys)) → ∃ ys, K ys ∧ RVs [] [] (gd (fun _ => True) [] []) w ys (v :: r) := by
      intro hp hl
      obtain ⟨ys, k1, k2⟩ := lendK_out hS xs h2 hl
      exact ⟨_, k1, by simp only [RVs]; exact ⟨_, _, rfl, RV.pure (fun b _ => ⟨trivial, not_owned_nil⟩) _ _ hp h1, k2⟩⟩
    have gen' : (match x.pure with
      | true => lendK H xs fun ys => K (x :: ys)
      | false => False) → ∃ ys, K ys ∧ RVs [] [] (gd (fun _ => True) [] []) w ys (v :: r) := by
      intro hl
      cases hp : x.pure with
      | true => rw [hp] at hl; exact gen hp hl
      | false => rw [hp] at hl; exact hl.elim
    cases x with
    | vs o gn off =>
      simp only [lendK] at hk
      obtain ⟨ob, hob, hk⟩ := getO_out _ _ _ hk
      cases ob with
      | vec g' es els =>
        obtain ⟨e, rows, hrows, hk⟩ := hk
        subst e
        rw [dropN_eq] at hrows
        obtain ⟨ys, k1, k2⟩ := lendK_out hS xs h2 hk
        refine ⟨_, k1, ?_⟩
        simp only [RVs]
        refine ⟨_, _, rfl, ?_, k2⟩
        obtain ⟨l, hl⟩ := hS.loc hob
        simp only [RV] at h1
        obtain ⟨_, _, hx⟩ := h1
        obtain ⟨_, hx⟩ := hx _ _ _ hob
        obtain ⟨l', a, hl', hoff, rfl, ha⟩ := hx rfl
        rw [hl] at hl'
        cases hl'
        have hok := hS.ok o l _ hl hob
        simp only [ObOk] at hok
        obtain ⟨q1, q2, q3, q4, q5⟩ := hok
        have hlen : rows.length = els.length - off := by
          have := congrArg List.length hrows
          simpa using this.symm
        simp only [RV, RD]
        refine ⟨a, l.cap - off, es, by rw [hlen], by omega, by omega, q3, ?_⟩
        by_cases hlt : off < els.length
        · right
          have q6 := q5.drop off
          rw [hrows] at q6
          exact ⟨l.blk, l.off + off * es, ha (by omega), ⟨trivial, not_owned_nil⟩, RDrows.move (fun b _ _ => ⟨trivial, not_owned_nil⟩) (fun _ _ _ => rfl) es _ _ _ (fun _ => rfl) q6.toD⟩
        · left
          exact List.eq_nil_of_length_eq_zero (by omega)
      | _ => exact hk.elim
    | es =>
      simp only [lendK] at hk
      obtain ⟨ys, k1, k2⟩ := lendK_out hS xs h2 hk
      refine ⟨_, k1, ?_⟩
      simp only [RVs]
      refine ⟨_, _, rfl, ?_, k2⟩
      simp only [RV] at h1
      obtain ⟨a, rfl⟩ := h1
      simp only [RV, RD]
      exact ⟨a, 0, 1, rfl, by simp, by simp [maxLen], by omega, by simp⟩
    | _ => exact gen' hk

theorem callOk_lend {f : Nat} {xs : List A} {H : List Ob} {K : A → List Ob → Prop} (he : ∀ (args : Array Value) (w : World), (callFunc f args).run P w = .ok (.enter f args) w)
    (h : lendK H xs fun ys => ∀ wb', CallOk P wb' f ys [] fun r _ => r.flat = true ∧ K r H) : CallOk P wb f xs H K := by
  refine ⟨he, fun G ρ w vs hS hv => ?_⟩
  obtain ⟨ys, k1, k2⟩ := lendK_out hS xs hv h
  have hs0 := sim_bare (G' := fun _ => True) w (fun _ _ => trivial)
  refine ((k1 w).out _ [] w vs hs0 k2).mono ?_
  rintro e w' ⟨v, r, ρ', H', rfl, ⟨hr, hk⟩, h2, h3, h4⟩
  have b1 := h2.base
  exact ⟨v, r, ρ, H, rfl, hk, sim_still hS b1.os b1.tape b1.output b1.size b1.block, RV.flat _ _ hr h3, step_still b1.os b1.tape b1.output b1.size b1.block⟩
end

/-- called with xs, the function gives r, and nothing old is written -/
def Con (f : Nat) (xs : List A) (r : A) : Prop := ∀ wb, CallOk Go.Proofs.Tryz.prog wb f xs [] fun r' _ => r' = r
section
variable {wb : World}
theorem con_use {f : Nat} {xs : List A} {r : A} (h : Con f xs r) (hp : A.pureL xs = true) (hr : r.pure = true) {H : List Ob} {K : A → List Ob → Prop} (hk : K r H) : CallOk Go.Proofs.Tryz.prog wb f xs H K :=
  callOk_pure (fun wb' => (h wb').mono fun r' _ e => by subst e; exact ⟨hr, hk⟩) hp
theorem con_lend {f : Nat} {xs : List A} {H : List Ob} {K : A → List Ob → Prop} {r : A} (he : ∀ (args : Array Value) (w : World), (callFunc f args).run Go.Proofs.Tryz.prog w = .ok (.enter f args) w)
    (h : lendK H xs fun ys => Con f ys r) (hr : r.flat = true) (hk : K r H) : CallOk Go.Proofs.Tryz.prog wb f xs H K := by
  have mono : ∀ (xs : List A) {K K' : List A → Prop}, (∀ ys, K ys → K' ys) → lendK H xs K → lendK H xs K' := by
    intro xs
    induction xs with
    | nil => exact fun h hk => h _ hk
    | cons x xs ih =>
      intro K K' h hk
      have gen : (match x.pure with
        | true => lendK H xs fun ys => K (x :: ys)
        | false => False) → (match x.pure with
        | true => lendK H xs fun ys => K' (x :: ys)
        | false => False) := by
        intro hl
        cases hp : x.pure with
        | true => rw [hp] at hl; exact ih (fun ys => h _) hl
        | false => rw [hp] at hl; exact hl.elim
      cases x with
      | vs o g off =>
        simp only [lendK] at hk ⊢
        have gm : ∀ (l : List Ob) (n : Nat) {L L' : Ob → Prop}, (∀ ob, L ob → L' ob) → getO l n L → getO l n L' := by
          intro l
          induction l with
          | nil => exact fun n _ _ _ h => h
          | cons y ys ih' =>
            intro n
            cases n with
            | zero => exact fun h hk => h _ hk
            | succ n => exact fun h hk => ih' n h hk
        refine gm _ _ (fun ob hob => ?_) hk
        cases ob with
        | vec g' es els =>
          obtain ⟨e, rows, hr, hl⟩ := hob
          exact ⟨e, rows, hr, ih (fun ys => h _) hl⟩
        | _ => exact hob
      | es => simp only [lendK] at hk ⊢; exact ih (fun ys => h _) hk
      | _ => exact gen hk
  exact callOk_lend he (mono xs (fun ys hc wb' => (hc wb').mono fun r' _ e => by subst e; exact ⟨hr, hk⟩) h)

theorem con_intro {f : Nat} {fn : Func} {xs : List A} {r : A} (hf : Go.Proofs.Tryz.prog.funcs[f]? = some fn) (he : ∀ (args : Array Value) (w : World), (callFunc f args).run Go.Proofs.Tryz.prog w = .ok (.enter f args) w)
    (h : A.wfs xs → ∀ wb, wpF Go.Proofs.Tryz.prog wb Θ fn xs [] fun r' H' => frzK r' H' fun r'' _ => r'' = r) : Con f xs r :=
  fun wb => callOk_wf he fun h1 _ => callOk_frz (callOk_intro Θok hf he (h h1 wb))
end
end Go.DL
