/- Contracts whose result is fresh: usable while vectors are lent. -/
import Derived.Test.YtidjlmjibfbmjaaGreatDoorDl19
namespace Go.DL
open Go.RowKit
def flatRows : List (List D) → Bool
  | [] => true
  | r :: rs => r.all D.flat && flatRows rs
theorem flatRows_map {α : Type} {f : α → List D} (h : ∀ a, (f a).all D.flat = true) : ∀ l : List α, flatRows (l.map f) = true
  | [] => rfl
  | a :: l => by simp [flatRows, h a, flatRows_map h l]
/-- a value that lies in fresh vectors alone, as plain data -/
inductive OwnD (H : List Ob) : A → D → Prop where
  | d (x : D) (h : x.flat = true) : OwnD H (.d x) x
  | es : OwnD H .es (.sl [])
  | vs (o g off es : Nat) (els : List (List A)) (rows : List (List D)) (ho : H[o]? = some (.vec g es els)) (hl : rows.length = els.length - off)
      (hw : ∀ (i : Nat) (r : List A) (row : List D), els[off + i]? = some r → rows[i]? = some row → row.length = r.length)
      (hr : ∀ (i : Nat) (r : List A) (row : List D), els[off + i]? = some r → rows[i]? = some row → ∀ (j : Nat) (x : A) (y : D), r[j]? = some x → row[j]? = some y → OwnD H x y) :
      OwnD H (.vs o g off) (.sl rows)
theorem length_mapD' (xs : List D) : (mapD xs).length = xs.length := length_mapD xs
theorem get_mapD : ∀ (xs : List D) (j : Nat), (mapD xs)[j]? = (xs[j]?).map A.d
  | [], _ => rfl
  | x :: xs, 0 => rfl
  | x :: xs, j + 1 => by simpa [mapD] using get_mapD xs j
theorem flatRows_get : ∀ {rows : List (List D)} {i : Nat} {row : List D}, flatRows rows = true → rows[i]? = some row → row.all D.flat = true
  | r :: rs, 0, row, h, e => by simp only [flatRows, Bool.and_eq_true] at h; simp at e; subst e; exact h.1
  | r :: rs, i + 1, row, h, e => by simp only [flatRows, Bool.and_eq_true] at h; exact flatRows_get h.2 (by simpa using e)
theorem ownD_flat {H : List Ob} {o g off es : Nat} {els : List (List A)} {rows : List (List D)} (ho : H[o]? = some (.vec g es els)) (h : dropN off els = rows.map mapD) (hf : flatRows rows = true) : OwnD H (.vs o g off) (.sl rows) := by
  rw [dropN_eq] at h
  have hl : rows.length = els.length - off := by
    have := congrArg List.length h
    simpa using this.symm
  have key : ∀ (i : Nat) (r : List A) (row : List D), els[off + i]? = some r → rows[i]? = some row → row.length = r.length ∧ ∀ (j : Nat) (x : A) (y : D), r[j]? = some x → row[j]? = some y → OwnD H x y := ?_
  · exact .vs o g off es els rows ho hl (fun i r row h1 h2 => (key i r row h1 h2).1) (fun i r row h1 h2 => (key i r row h1 h2).2)
  intro i r row h1 h2
  have h3 : (els.drop off)[i]? = some r := by rw [List.getElem?_drop]; exact h1
  rw [h, List.getElem?_map, h2] at h3
  cases h3
  refine ⟨(length_mapD row).symm, fun j x y a b => ?_⟩
  rw [get_mapD, b] at a
  cases a
  refine .d y ?_
  have := flatRows_get hf h2
  rw [List.all_eq_true] at this
  exact this _ (List.mem_of_getElem? b)
mutual
/-- what came out of fresh vectors alone -/
def ownK : A → List Ob → (A → Prop) → Prop
  | .es, _, K => K (.d (.sl []))
  | .vs o g off, H, K => ∃ rows : List (List D), OwnD H (.vs o g off) (.sl rows) ∧ K (.d (.sl rows))
  | .d x, _, K => x.flat = true ∧ K (.d x)
  | .agg cs, H, K => ownsK cs H fun ys => K (.agg ys)
  | .tup cs, H, K => ownsK cs H fun ys => K (.tup ys)
  | .nilp, _, K => K .nilp
  | .nilf, _, K => K .nilf
  | .nilm, _, K => K .nilm
  | .ptr .., _, _ => False
  | .undef, _, _ => False
  | .fp _, _, _ => False
  | .vp .., _, _ => False
  | .fn .., _, _ => False
  | .mp _, _, _ => False
def ownsK : List A → List Ob → (List A → Prop) → Prop
  | [], _, K => K []
  | x :: xs, H, K => ownK x H fun y => ownsK xs H fun ys => K (y :: ys)
end
section
variable {P : Program} {wb : World} {G : Nat → Prop} {ρ : List Loc} {H : List Ob} {w : World}
theorem RDrows_of {g : Nat → Prop} {es : Nat} : ∀ {rows : List (List D)} {blk off : Nat}, (∀ (i : Nat) (row : List D), rows[i]? = some row → row.length = es ∧ RDs g w row blk (off + i * es)) → RDrows g w es rows blk off
  | [], _, _, _ => by simp [RDrows]
  | r :: rs, blk, off, h => by
    simp only [RDrows]
    have h0 := h 0 r rfl
    refine ⟨h0.1, by simpa using h0.2, RDrows_of fun i row hi => ?_⟩
    have := h (i + 1) row (by simpa using hi)
    refine ⟨this.1, ?_⟩
    have e : off + (i + 1) * es = off + es + i * es := by rw [Nat.add_mul]; omega
    rw [← e]
    exact this.2
theorem RDs_of {g : Nat → Prop} : ∀ {xs : List D} {blk off : Nat}, (∀ (j : Nat) (x : D), xs[j]? = some x → ∃ u, w.cell? ⟨blk, off + j, none⟩ = some u ∧ RD g w x u) → RDs g w xs blk off
  | [], _, _, _ => by simp [RDs]
  | x :: xs, blk, off, h => by
    simp only [RDs]
    refine ⟨by simpa using h 0 x rfl, RDs_of fun j y hj => ?_⟩
    have := h (j + 1) y (by simpa using hj)
    rwa [show off + (j + 1) = off + 1 + j by omega] at this
theorem ownD_out (hS : SimH G wb ρ H w) {x : A} {y : D} (ho : OwnD H x y) : ∀ {v : Value}, RV ρ H (gd G ρ H) w x v → RD (fun b => wb.heap.size ≤ b) w y v := by
  induction ho with
  | d x h =>
    intro v hx
    have : RV [] [] (fun b => wb.heap.size ≤ b) w (.d x) v := RV.flat (.d x) v (by simpa [A.flat] using h) hx
    simpa only [RV] using this
  | es =>
    intro v h
    simp only [RV] at h
    obtain ⟨a, rfl⟩ := h
    simp only [RD]
    exact ⟨a, 0, 1, rfl, by simp, by simp [maxLen], by omega, by simp⟩
  | vs o gn off es els rows hob hlen hw hr ih =>
    intro v hx
    obtain ⟨l, hl⟩ := hS.loc hob
    simp only [RV] at hx
    obtain ⟨_, _, hx⟩ := hx
    obtain ⟨_, hx⟩ := hx _ _ _ hob
    obtain ⟨l', a, hl', hoff, rfl, ha⟩ := hx rfl
    rw [hl] at hl'
    cases hl'
    have hok := hS.ok o l _ hl hob
    simp only [ObOk] at hok
    obtain ⟨k1, k2, k3, -, k5⟩ := hok
    simp only [RD]
    refine ⟨a, l.cap - off, es, by rw [hlen], by omega, by omega, k3, ?_⟩
    by_cases hlt : off < els.length
    · right
      refine ⟨l.blk, l.off + off * es, ha (by omega), (hS.lt o l _ hl hob (show 0 < l.cap by omega)).1, RDrows_of fun i row hi => ?_⟩
      have hi' : i < rows.length := (List.getElem?_eq_some_iff.1 hi).1
      have hoi : off + i < els.length := by omega
      have he : els[off + i]? = some els[off + i] := List.getElem?_eq_getElem hoi
      have r1 := hw i _ row he hi
      obtain ⟨c1, c2⟩ := k5.get he
      refine ⟨by omega, RDs_of fun j y hj => ?_⟩
      have hj' : j < (els[off + i]).length := by
        have := (List.getElem?_eq_some_iff.1 hj).1
        omega
      obtain ⟨_, u, hu, hv⟩ := (RVcells_iff.1 c2) j _ (List.getElem?_eq_getElem hj')
      refine ⟨u, ?_, ih i _ row he hi j _ y (List.getElem?_eq_getElem hj') hj hv⟩
      rw [← hu]
      congr 2
      rw [Nat.add_mul]
      omega
    · left
      have : rows.length = 0 := by omega
      exact List.eq_nil_of_length_eq_zero this
mutual
theorem ownK_out (hS : SimH G wb ρ H w) : ∀ (x : A) {v : Value} {K : A → Prop}, RV ρ H (gd G ρ H) w x v → ownK x H K → ∃ y, K y ∧ y.pure = true ∧ RV [] [] (fun b => wb.heap.size ≤ b) w y v
  | .es, v, K, h, hk => by
    simp only [RV] at h
    obtain ⟨a, rfl⟩ := h
    exact ⟨_, hk, rfl, by simp only [RV, RD]; exact ⟨a, 0, 1, rfl, by simp, by simp [maxLen], by omega, by simp⟩⟩
  | .vs o gn off, v, K, hx, hk => by
    simp only [ownK] at hk
    obtain ⟨rows, h1, h2⟩ := hk
    exact ⟨_, h2, rfl, by simp only [RV]; exact ownD_out hS h1 hx⟩
  | .d x, v, K, h, hk => by
    simp only [ownK] at hk
    refine ⟨_, hk.2, rfl, ?_⟩
    exact RV.flat (.d x) v (by simpa [A.flat] using hk.1) h
  | .agg cs, v, K, h, hk => by
    simp only [RV] at h
    obtain ⟨vs, rfl, h⟩ := h
    simp only [ownK] at hk
    obtain ⟨ys, k1, k2, k3⟩ := ownsK_out hS cs h hk
    exact ⟨_, k1, by simpa [A.pure] using k2, by simp only [RV]; exact ⟨vs, rfl, k3⟩⟩
  | .tup cs, v, K, h, hk => by
    simp only [RV] at h
    obtain ⟨vs, rfl, h⟩ := h
    simp only [ownK] at hk
    obtain ⟨ys, k1, k2, k3⟩ := ownsK_out hS cs h hk
    exact ⟨_, k1, by simpa [A.pure] using k2, by simp only [RV]; exact ⟨vs, rfl, k3⟩⟩
  | .nilp, v, K, h, hk => ⟨_, hk, rfl, by simpa only [RV] using h⟩
  | .nilf, v, K, h, hk => ⟨_, hk, rfl, by simpa only [RV] using h⟩
  | .nilm, v, K, h, hk => ⟨_, hk, rfl, by simpa only [RV] using h⟩
  | .ptr .., _, _, _, hk | .undef, _, _, _, hk | .fp _, _, _, _, hk | .vp .., _, _, _, hk | .fn .., _, _, _, hk | .mp _, _, _, _, hk => by simp [ownK] at hk
theorem ownsK_out (hS : SimH G wb ρ H w) : ∀ (xs : List A) {vs : List Value} {K : List A → Prop}, RVs ρ H (gd G ρ H) w xs vs → ownsK xs H K → ∃ ys, K ys ∧ A.pureL ys = true ∧ RVs [] [] (fun b => wb.heap.size ≤ b) w ys vs
  | [], vs, K, h, hk => ⟨[], hk, rfl, by simpa [RVs] using h⟩
  | x :: xs, vs, K, h, hk => by
    simp only [RVs] at h
    obtain ⟨v, r, rfl, h1, h2⟩ := h
    simp only [ownsK] at hk
    obtain ⟨y, hk, p1, r1⟩ := ownK_out hS x h1 hk
    obtain ⟨ys, hk, p2, r2⟩ := ownsK_out hS xs h2 hk
    exact ⟨_, hk, by simp [A.pureL, p1, p2], by simp only [RVs]; exact ⟨v, r, rfl, r1, r2⟩⟩
end
theorem callOk_lendF {f : Nat} {xs : List A} {K : A → List Ob → Prop} (he : ∀ (args : Array Value) (w : World), (callFunc f args).run P w = .ok (.enter f args) w)
    (h : lendK H xs fun ys => ∀ wb', CallOk P wb' f ys [] fun r H' => ownK r H' fun r' => K r' H) : CallOk P wb f xs H K := by
  refine ⟨he, fun G ρ w vs hS hv => ?_⟩
  obtain ⟨ys, k1, k2⟩ := lendK_out hS xs hv h
  have hs0 := sim_bare (G' := fun _ => True) w (fun _ _ => trivial)
  refine ((k1 w).out _ [] w vs hs0 k2).mono ?_
  rintro e w' ⟨v, r, ρ', H', rfl, hk, h2, h3, h4⟩
  have b1 := h2.base
  obtain ⟨y, k1, k2, k3⟩ := ownK_out h2 r h3 hk
  exact ⟨v, y, ρ, H, rfl, k1, sim_still hS b1.os b1.tape b1.output b1.size b1.block,
    RV.pure (fun b hb => ⟨hS.gup b hb, fun ho => by have := owned_lt hS ho; omega⟩) _ _ k2 k3, step_still b1.os b1.tape b1.output b1.size b1.block⟩
theorem callOk_ownF {f : Nat} {xs : List A} {K : A → List Ob → Prop} (h : ∀ wb', CallOk P wb' f xs [] fun r H' => ownK r H' fun r' => K r' H) (hp : A.pureL xs = true) : CallOk P wb f xs H K := by
  refine ⟨(h wb).ent, fun G ρ w vs hS hv => ?_⟩
  have hs0 := sim_bare (G' := gd G ρ H) w (fun b hb => ⟨hS.gup b hb, fun ho => by have := owned_lt hS ho; omega⟩)
  refine ((h w).out _ [] w vs hs0 (RVs.pure (fun b hb => ⟨hb, not_owned_nil⟩) _ _ hp hv)).mono ?_
  rintro e w' ⟨v, r, ρ', H', rfl, hk, h2, h3, h4⟩
  have b1 := h2.base
  obtain ⟨y, k1, k2, k3⟩ := ownK_out h2 r h3 hk
  exact ⟨v, y, ρ, H, rfl, k1, sim_still hS b1.os b1.tape b1.output b1.size b1.block,
    RV.pure (fun b hb => ⟨hS.gup b hb, fun ho => by have := owned_lt hS ho; omega⟩) _ _ k2 k3, step_still b1.os b1.tape b1.output b1.size b1.block⟩
theorem lendK_mono : ∀ (xs : List A) {K K' : List A → Prop}, (∀ ys, K ys → K' ys) → lendK H xs K → lendK H xs K'
  | [], _, _, h, hk => h _ hk
  | x :: xs, K, K', h, hk => by
    have gen : (match x.pure with
      | true => lendK H xs fun ys => K (x :: ys)
      | false => False) → (match x.pure with
      | true => lendK H xs fun ys => K' (x :: ys)
      | false => False) := by
      intro hl
      cases hp : x.pure with
      | true => rw [hp] at hl; exact lendK_mono xs (fun ys => h _) hl
      | false => rw [hp] at hl; exact hl
    cases x <;> first
      | exact gen hk
      | exact lendK_mono xs (fun ys => h _) hk
      | skip
    rename_i o g off
    simp only [lendK] at hk ⊢
    obtain ⟨ob, hob, hk⟩ := getO_out _ _ _ hk
    refine getO_in hob ?_
    cases ob with
    | vec g' es els =>
      obtain ⟨e, rows, h1, h2⟩ := hk
      exact ⟨e, rows, h1, lendK_mono xs (fun ys => h _) h2⟩
    | _ => exact hk
theorem ownK_frz (x : A) : ∀ {H : List Ob} {K : A → Prop}, ownK x H K → ∃ y, K y ∧ ∀ K' : A → Prop, K' y → ownK x H K' := by
  refine @A.rec (fun x => ∀ {H : List Ob} {K : A → Prop}, ownK x H K → ∃ y, K y ∧ ∀ K' : A → Prop, K' y → ownK x H K')
    (fun xs => ∀ {H : List Ob} {K : List A → Prop}, ownsK xs H K → ∃ ys, K ys ∧ ∀ K' : List A → Prop, K' ys → ownsK xs H K') ?_ ?_ ?_ ?_ ?_ ?_ ?_ ?_ ?_ ?_ ?_ ?_ ?_ ?_ ?_ ?_ x
  · intro H K h; simp [ownK] at h
  · intro d H K h; simp only [ownK] at h ⊢; exact ⟨_, h.2, fun K' k => ⟨h.1, k⟩⟩
  · intro cs ih H K h
    simp only [ownK] at h ⊢
    obtain ⟨ys, h1, h2⟩ := ih h
    exact ⟨_, h1, fun K' k => h2 _ k⟩
  · intro cs ih H K h
    simp only [ownK] at h ⊢
    obtain ⟨ys, h1, h2⟩ := ih h
    exact ⟨_, h1, fun K' k => h2 _ k⟩
  · intro _ _ H K h; simp [ownK] at h
  · intro _ H K h; simp [ownK] at h
  · intro _ _ _ _ H K h; simp [ownK] at h
  · intro o g off H K h
    simp only [ownK] at h ⊢
    obtain ⟨rows, h1, h2⟩ := h
    exact ⟨_, h2, fun K' k => ⟨rows, h1, k⟩⟩
  · intro H K h; exact ⟨_, h, fun _ k => k⟩
  · intro _ _ _ _ _ H K h; simp [ownK] at h
  · intro H K h; exact ⟨_, h, fun _ k => k⟩
  · intro H K h; exact ⟨_, h, fun _ k => k⟩
  · intro _ H K h; simp [ownK] at h
  · intro H K h; exact ⟨_, h, fun _ k => k⟩
  · intro H K h; exact ⟨_, h, fun _ k => k⟩
  · intro x xs ih1 ih2 H K h
    simp only [ownsK] at h ⊢
    obtain ⟨y, h1, k1⟩ := ih1 h
    obtain ⟨ys, h2, k2⟩ := ih2 h1
    exact ⟨_, h2, fun K' k => k1 _ (k2 _ k)⟩
end

/-- called with xs, the function gives r out of memory of its own, and nothing old is written -/
def ConF (f : Nat) (xs : List A) (r : A) : Prop := ∀ wb, CallOk Go.Proofs.Tryz.prog wb f xs [] fun r' H' => ownK r' H' fun r'' => r'' = r
section
variable {wb : World}
theorem conF_lend {f : Nat} {xs : List A} {H : List Ob} {K : A → List Ob → Prop} {r : A} (he : ∀ (args : Array Value) (w : World), (callFunc f args).run Go.Proofs.Tryz.prog w = .ok (.enter f args) w)
    (h : lendK H xs fun ys => ConF f ys r) (hk : K r H) : CallOk Go.Proofs.Tryz.prog wb f xs H K := by
  refine callOk_lendF he (lendK_mono _ (fun ys hc => ?_) h)
  intro wb'
  refine (hc wb').mono fun r' H' ho => ?_
  obtain ⟨y, h1, h2⟩ := ownK_frz r' ho
  exact h2 _ (by subst h1; exact hk)
theorem conF_intro {f : Nat} {fn : Func} {xs : List A} {r : A} (hf : Go.Proofs.Tryz.prog.funcs[f]? = some fn) (he : ∀ (args : Array Value) (w : World), (callFunc f args).run Go.Proofs.Tryz.prog w = .ok (.enter f args) w)
    (h : A.wfs xs → ∀ wb, wpF Go.Proofs.Tryz.prog wb Θ fn xs [] fun r' H' => ownK r' H' fun r'' => r'' = r) : ConF f xs r :=
  fun wb => callOk_wf he fun hw _ => callOk_intro Θok hf he (h hw wb)
theorem conF_use {f : Nat} {xs : List A} {r : A} (h : ConF f xs r) (hp : A.pureL xs = true) {H : List Ob} {K : A → List Ob → Prop} (hk : K r H) : CallOk Go.Proofs.Tryz.prog wb f xs H K := by
  refine callOk_ownF (fun wb' => (h wb').mono fun r' H' ho => ?_) hp
  obtain ⟨y, h1, h2⟩ := ownK_frz r' ho
  exact h2 _ (by subst h1; exact hk)
end
end Go.DL
