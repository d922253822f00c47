/- Cells of vectors: an empty slice in a cell may become a vector of its own; a vector in a cell may become plain data. -/
import Derived.Test.YtidjlmjibfbmjaaGreatDoorDl22
namespace Go.DL
open Go.RowKit
section
variable {P : Program} {wb : World} {G : Nat → Prop} {ρ : List Loc} {H : List Ob} {w : World}
theorem sim_cell (hS : SimH G wb ρ H w) {o g es i j : Nat} {l : Loc} {els : List (List A)} {row : List A} (ho : ρ[o]? = some l) (hob : H[o]? = some (.vec g es els)) (hr : els[i]? = some row) (hj : j < row.length) {y : A} (hy : y.one = true)
    (hv : ∀ u, w.cell? ⟨l.blk, l.off + i * es + j, none⟩ = some u → RV ρ H (gd G ρ H) w y u) :
    SimH G wb ρ (H.set o (.vec g es (els.set i (row.set j y)))) w ∧ Step ρ H w ρ (H.set o (.vec g es (els.set i (row.set j y)))) w := by
  have ht : Turns (.vec g es els) (.vec g es (els.set i (row.set j y))) l l := .inr ⟨g, _, rfl, Nat.le_refl _, fun _ => ⟨by simp, rfl⟩⟩
  have hs := step_set (w' := w) (l' := l) (ob' := .vec g es (els.set i (row.set j y))) hS ho hob rfl rfl rfl (Nat.le_refl _) (fun _ _ _ => rfl) ht (fun h => .inl ⟨rfl, h⟩)
  have hok := hS.ok _ _ _ ho hob
  simp only [ObOk] at hok
  obtain ⟨k1, k2, k3, k4, k5⟩ := hok
  have hi := (List.getElem?_eq_some_iff.1 hr).1
  rw [set_self ho] at hs
  have hm := sim_set (w' := w) (l' := l) (ob' := .vec g es (els.set i (row.set j y))) hS ho hob rfl rfl rfl (Nat.le_refl _) (fun _ _ _ => rfl) ht (fun h => .inl ⟨rfl, h⟩) (by
    rw [set_self ho]
    simp only [ObOk]
    refine ⟨by simpa using k1, k2, k3, k4, ?_⟩
    rw [RVrows_iff] at k5 ⊢
    intro i' row' hr'
    rw [List.getElem?_set] at hr'
    have same : ∀ row0, els[i']? = some row0 → row0.length = es ∧ RVcells ρ (H.set o (.vec g es (els.set i (row.set j y)))) (gd G ρ (H.set o (.vec g es (els.set i (row.set j y))))) w row0 l.blk (l.off + i' * es) := by
      intro row0 h0
      obtain ⟨c1, c2⟩ := k5 i' row0 h0
      refine ⟨c1, ?_⟩
      rw [RVcells_iff] at c2 ⊢
      intro q x hx
      obtain ⟨o1, u, hu, hxu⟩ := c2 q x hx
      exact ⟨o1, u, hu, hs.rv hS.len hxu⟩
    by_cases e : i = i'
    · subst e
      rw [if_pos rfl, if_pos hi] at hr'
      cases hr'
      obtain ⟨c1, c2⟩ := same row hr
      refine ⟨by simpa using c1, ?_⟩
      rw [RVcells_iff] at c2 ⊢
      intro q x hx
      rw [List.getElem?_set] at hx
      by_cases e2 : j = q
      · subst e2
        rw [if_pos rfl, if_pos hj] at hx
        cases hx
        obtain ⟨_, u, hu, _⟩ := c2 j _ (List.getElem?_eq_getElem hj)
        exact ⟨hy, u, hu, hs.rv hS.len (hv u hu)⟩
      · rw [if_neg e2] at hx
        exact c2 q x hx
    · rw [if_neg e] at hr'
      exact same row' hr')
  rw [set_self ho] at hm
  exact ⟨hm, hs⟩
theorem cell_of (hS : SimH G wb ρ H w) {o g es i j : Nat} {l : Loc} {els : List (List A)} {row : List A} {x : A} (ho : ρ[o]? = some l) (hob : H[o]? = some (.vec g es els)) (hr : els[i]? = some row) (hx : row[j]? = some x) :
    ∃ u, w.cell? ⟨l.blk, l.off + i * es + j, none⟩ = some u ∧ RV ρ H (gd G ρ H) w x u := by
  have hok := hS.ok _ _ _ ho hob
  simp only [ObOk] at hok
  obtain ⟨_, c2⟩ := hok.2.2.2.2.get hr
  obtain ⟨_, u, hu, hxu⟩ := (RVcells_iff.1 c2) j x hx
  exact ⟨u, hu, hxu⟩
theorem lift_cell {c : Code} {env : List A} {Q : Ex → List A → List Ob → Prop} (o i es : Nat) (hes : 0 < es) {g es' : Nat} {els : List (List A)} (hob : H[o]? = some (.vec g es' els)) (hr : els[i]? = some [.es])
    (h : TriS P wb c env (H.set o (.vec g es' (els.set i [.vs H.length 0 0])) ++ [.vec 0 es []]) Q) : TriS P wb c env H Q := by
  refine ⟨fun G ρ a w hS hd hE => ?_⟩
  have hs := step_push (w' := w) hS ⟨w.heap.size, 0, 0⟩ (.vec 0 es []) rfl rfl rfl (Nat.le_refl _) (fun _ _ => rfl) (fun ho => by
    have ho : 0 < 0 := ho
    omega)
  have hS' := sim_push (w' := w) hS ⟨w.heap.size, 0, 0⟩ (.vec 0 es []) rfl rfl rfl (Nat.le_refl _) (fun _ _ => rfl) (fun ho => by
    have ho : 0 < 0 := ho
    omega) (by
    simp only [ObOk]
    exact ⟨Nat.le_refl _, Nat.zero_le _, hes, fun h => by omega, by simp [RVrows]⟩)
  obtain ⟨l, hl⟩ := hS.loc hob
  have hlt : o < H.length := (List.getElem?_eq_some_iff.1 hob).1
  have hob' : (H ++ [Ob.vec 0 es []])[o]? = some (.vec g es' els) := by rw [List.getElem?_append_left hlt]; exact hob
  have hl' : (ρ ++ [(⟨w.heap.size, 0, 0⟩ : Loc)])[o]? = some l := by rw [List.getElem?_append_left (by rw [hS.len]; exact hlt)]; exact hl
  obtain ⟨u0, hu0, hx0⟩ := cell_of (j := 0) hS' hl' hob' hr rfl
  obtain ⟨hm, ht⟩ := sim_cell (j := 0) (y := .vs H.length 0 0) hS' hl' hob' hr (by simp) rfl (by
    intro u hu
    rw [hu] at hu0
    cases hu0
    simp only [RV] at hx0 ⊢
    obtain ⟨ad, rfl⟩ := hx0
    refine ⟨⟨_, _, _, rfl⟩, by simp, fun gc es' els' hc => ?_⟩
    rw [getElem?_snoc, if_neg (by omega), if_pos rfl] at hc
    cases hc
    refine ⟨Nat.le_refl _, fun _ => ⟨⟨w.heap.size, 0, 0⟩, ad, ?_, Nat.zero_le _, by simp, fun h => by simp at h⟩⟩
    rw [getElem?_snoc, hS.len, if_neg (by omega), if_pos rfl])
  have he : (H ++ [Ob.vec 0 es []]).set o (.vec g es' (els.set i [.vs H.length 0 0])) = H.set o (.vec g es' (els.set i [.vs H.length 0 0])) ++ [.vec 0 es []] := by
    rw [List.set_append, if_pos hlt]
  have hrow : ([A.es] : List A).set 0 (.vs H.length 0 0) = [.vs H.length 0 0] := rfl
  rw [hrow, he] at hm ht
  have hs2 := hs.trans ht
  exact wp_mono (h.out G _ a w hm hd (hs2.rvs hS.len hE)) fun _ _ _ hp => Post.after (G := G) hs2 hp
/-- the vector to which cell i of object o leads becomes plain data there -/
def frzC (o i : Nat) (H : List Ob) (K : List Ob → Prop) : Prop :=
  ∃ (g es : Nat) (els : List (List A)) (k gk off es' : Nat) (els' : List (List A)) (rows : List (List D)), H[o]? = some (.vec g es els) ∧ els[i]? = some [.vs k gk off] ∧ k ≠ o ∧ H[k]? = some (.vec gk es' els') ∧
    els'.drop off = rows.map mapD ∧ K ((H.set k .gone).set o (.vec g es (els.set i [.d (.sl rows)])))
theorem after_frzC {c : Code} {env : List A} {Q : Ex → List A → List Ob → Prop} (o i : Nat)
    (h : TriS P wb c env H fun e env' H' => match e with
      | .exit q => frzC o i H' fun H'' => Q (.exit q) env' H''
      | .normal => Q .normal env' H'
      | .ret => Q .ret env' H') : TriS P wb c env H Q := by
  refine ⟨fun G ρ a w hS hd hE => wp_mono (h.out G ρ a w hS hd hE) ?_⟩
  rintro e a1 w1 ⟨e', ρ', env', H', h1, h2, h3, h4, h5, h6⟩
  cases e' with
  | normal => exact ⟨.normal, ρ', env', H', h1, h2, h3, h4, h5, h6⟩
  | ret => exact ⟨.ret, ρ', env', H', h1, h2, h3, h4, h5, h6⟩
  | exit q =>
    obtain ⟨g, es, els, k, gk, off, es', els', rows, q1, q2, q3, q4, q5, hQ⟩ := h2
    obtain ⟨l, hl⟩ := h3.loc q1
    obtain ⟨u, hu, hx⟩ := cell_of (j := 0) h3 hl q1 q2 rfl
    obtain ⟨y, H2, ⟨e1, e2⟩, s1, s2, s3⟩ := toDK_out h3 hx (K := fun y H2 => y = .sl rows ∧ H2 = H'.set k .gone) (getO_in q4 ⟨rfl, rows, by rw [dropN_eq]; exact q5, setK_in ⟨rfl, rfl⟩⟩)
    subst e1
    subst e2
    have q1' : (H'.set k .gone)[o]? = some (.vec g es els) := by
      rw [List.getElem?_set_ne q3]
      exact q1
    obtain ⟨m1, m2⟩ := sim_cell (j := 0) (y := .d (.sl rows)) s1 hl q1' q2 (by simp) rfl (by
      intro u' hu'
      rw [hu'] at hu
      cases hu
      simp only [RV]
      exact s2)
    have st := s3.trans m2
    exact ⟨.exit q, ρ', env', _, h1, hQ, m1, h4, st.rvs h3.len h5, h6.trans st⟩
end
end Go.DL
