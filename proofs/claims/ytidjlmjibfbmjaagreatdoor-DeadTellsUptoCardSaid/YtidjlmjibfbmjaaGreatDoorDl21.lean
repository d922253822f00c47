/- Objects may be numbered anew, and what is unreached forgotten. -/
import Derived.Test.YtidjlmjibfbmjaaGreatDoorDl20
namespace Go.DL
open Go.RowKit
def renN (π : List Nat) (o : Nat) : Nat := (π[o]?).getD o
mutual
def renA (π : List Nat) : A → A
  | .undef => .undef
  | .d x => .d x
  | .agg cs => .agg (renAs π cs)
  | .tup cs => .tup (renAs π cs)
  | .ptr o q => .ptr (renN π o) q
  | .fp r => .fp r
  | .vp o g i q => .vp (renN π o) g i q
  | .vs o g q => .vs (renN π o) g q
  | .es => .es
  | .fn f x y => .fn f (renAs π x) (renAs π y)
  | .nilp => .nilp
  | .nilf => .nilf
  | .mp o => .mp (renN π o)
  | .nilm => .nilm
def renAs (π : List Nat) : List A → List A
  | [] => []
  | x :: xs => renA π x :: renAs π xs
end
def renRows (π : List Nat) : List (List A) → List (List A)
  | [] => []
  | r :: rs => renAs π r :: renRows π rs
def renEs (π : List Nat) : List (Int × A) → List (Int × A)
  | [] => []
  | x :: xs => (x.1, renA π x.2) :: renEs π xs
def renOb (π : List Nat) : Ob → Ob
  | .box cs => .box (renAs π cs)
  | .vec g es els => .vec g es (renRows π els)
  | .map k es => .map k (renEs π es)
  | .gone => .gone
theorem renRows_len (π : List Nat) : ∀ l, (renRows π l).length = l.length
  | [] => rfl
  | _ :: l => by simp [renRows, renRows_len π l]
theorem renAs_len (π : List Nat) : ∀ l, (renAs π l).length = l.length
  | [] => rfl
  | _ :: l => by simp [renAs, renAs_len π l]
theorem renA_one (π : List Nat) (x : A) : (renA π x).one = x.one := by cases x <;> rfl
/-- the second heap holds objects of the first, in other places -/
structure Iso (n : Nat) (π : List Nat) (env : List A) (H : List Ob) (env0 : List A) (H0 : List Ob) : Prop where
  len : π.length = H0.length
  le : n ≤ H0.length
  old : ∀ o, o < n → π[o]? = some o
  inj : ∀ (i j p : Nat), π[i]? = some p → π[j]? = some p → i = j
  env : env = renAs π env0
  ob : ∀ (i p : Nat) (ob : Ob), π[i]? = some p → H0[i]? = some ob → H[p]? = some (renOb π ob)
  re : A.refsL H0.length env0 = true
  rh : refsH H0.length H0 = true
section
variable {P : Program} {wb : World} {G : Nat → Prop} {ρ : List Loc} {H H0 : List Ob} {w : World} {π : List Nat} {n : Nat} {env env0 : List A}
def rho (π : List Nat) (ρ : List Loc) : List Loc := π.map fun p => (ρ[p]?).getD ⟨0, 0, 0⟩
theorem Iso.at (h : Iso n π env H env0 H0) {o : Nat} (ho : o < H0.length) : ∃ p, π[o]? = some p ∧ renN π o = p := by
  have : o < π.length := by rw [h.len]; exact ho
  exact ⟨π[o], List.getElem?_eq_getElem this, by unfold renN; rw [List.getElem?_eq_getElem this]; rfl⟩
theorem Iso.loc (h : Iso n π env H env0 H0) (hS : ρ.length = H.length) {o p : Nat} {ob : Ob} (hp : π[o]? = some p) (ho : H0[o]? = some ob) : ∃ l, ρ[p]? = some l ∧ (rho π ρ)[o]? = some l := by
  have h1 := h.ob o p ob hp ho
  have h2 : p < H.length := (List.getElem?_eq_some_iff.1 h1).1
  have h3 : p < ρ.length := by omega
  refine ⟨ρ[p], List.getElem?_eq_getElem h3, ?_⟩
  unfold rho
  rw [List.getElem?_map, hp]
  simp [List.getElem?_eq_getElem h3]
theorem Iso.back (h : Iso n π env H env0 H0) (hS : ρ.length = H.length) {o : Nat} {l : Loc} {ob : Ob} (hl : (rho π ρ)[o]? = some l) (ho : H0[o]? = some ob) :
    ∃ p, π[o]? = some p ∧ ρ[p]? = some l ∧ H[p]? = some (renOb π ob) := by
  obtain ⟨p, hp, _⟩ := h.at (List.getElem?_eq_some_iff.1 ho).1
  obtain ⟨l', h1, h2⟩ := h.loc hS hp ho
  rw [hl] at h2
  cases h2
  exact ⟨p, hp, h1, h.ob o p ob hp ho⟩
theorem renOb_owns (ob : Ob) (l : Loc) (h : ob.owns l) : (renOb π ob).owns l := by cases ob <;> exact h
theorem Iso.owned (h : Iso n π env H env0 H0) (hS : ρ.length = H.length) {b : Nat} (ho : owned (rho π ρ) H0 b) : owned ρ H b := by
  obtain ⟨o, l, ob, h1, h2, h3, h4⟩ := ho
  obtain ⟨p, _, q1, q2⟩ := h.back hS h1 h2
  exact ⟨p, l, _, q1, q2, renOb_owns _ _ h3, h4⟩
theorem Iso.gd (h : Iso n π env H env0 H0) (hS : ρ.length = H.length) : ∀ b, gd G ρ H b → gd G (rho π ρ) H0 b :=
  fun b hb => ⟨hb.1, fun ho => hb.2 (h.owned hS ho)⟩
theorem blt_out {a b : Nat} (h : Nat.blt a b = true) : a < b := by
  unfold Nat.blt at h
  exact Nat.le_of_ble_eq_true h
mutual
theorem RV.ren {g g' : Nat → Prop} (h : Iso n π env H env0 H0) (hS : ρ.length = H.length) (hg : ∀ b, g b → g' b) : ∀ (x : A) (v : Value), x.refs H0.length = true → RV ρ H g w (renA π x) v → RV (rho π ρ) H0 g' w x v
  | .undef, _, _, _ => by simp [RV]
  | .d x, v, _, hv => by
    have hv' : RV ρ H g w (.d x) v := by simpa only [renA] using hv
    exact RV.pure hg (.d x) v rfl hv'
  | .agg cs, v, hr, hv => by
    simp only [renA, RV] at hv ⊢
    obtain ⟨vs, rfl, hv⟩ := hv
    exact ⟨vs, rfl, RVs.ren h hS hg cs _ (by simpa [A.refs] using hr) hv⟩
  | .tup cs, v, hr, hv => by
    simp only [renA, RV] at hv ⊢
    obtain ⟨vs, rfl, hv⟩ := hv
    exact ⟨vs, rfl, RVs.ren h hS hg cs _ (by simpa [A.refs] using hr) hv⟩
  | .ptr o q, v, hr, hv => by
    simp only [renA, RV] at hv ⊢
    have ho : o < H0.length := blt_out (by simpa [A.refs] using hr)
    obtain ⟨p, hp, e⟩ := h.at ho
    rw [e] at hv
    refine ⟨hv.1, ho, fun cs hc => ?_⟩
    obtain ⟨l, h1, h2⟩ := hv.2.2 _ (h.ob o p _ hp hc)
    obtain ⟨l', k1, k2⟩ := h.loc hS hp hc
    rw [h1] at k1
    cases k1
    exact ⟨l, k2, h2⟩
  | .fp r, v, _, hv => by
    have hv' : RV ρ H g w (.fp r) v := by simpa only [renA] using hv
    exact RV.pure hg (.fp r) v rfl hv'
  | .vp o gn i q, v, hr, hv => by
    simp only [renA, RV] at hv ⊢
    have ho : o < H0.length := blt_out (by simpa [A.refs] using hr)
    obtain ⟨p, hp, e⟩ := h.at ho
    rw [e] at hv
    refine ⟨hv.1, ho, fun gc es els hc => ?_⟩
    obtain ⟨h0, h1⟩ := hv.2.2 _ _ _ (h.ob o p _ hp hc)
    refine ⟨h0, fun eg => ?_⟩
    obtain ⟨l, h1, h2, h3⟩ := h1 eg
    obtain ⟨l', k1, k2⟩ := h.loc hS hp hc
    rw [h1] at k1
    cases k1
    rw [renRows_len] at h2
    exact ⟨l, k2, h2, h3⟩
  | .vs o gn q, v, hr, hv => by
    simp only [renA, RV] at hv ⊢
    have ho : o < H0.length := blt_out (by simpa [A.refs] using hr)
    obtain ⟨p, hp, e⟩ := h.at ho
    rw [e] at hv
    refine ⟨hv.1, ho, fun gc es els hc => ?_⟩
    obtain ⟨h0, h1⟩ := hv.2.2 _ _ _ (h.ob o p _ hp hc)
    refine ⟨h0, fun eg => ?_⟩
    obtain ⟨l, a, h1, h2, h3, h4⟩ := h1 eg
    obtain ⟨l', k1, k2⟩ := h.loc hS hp hc
    rw [h1] at k1
    cases k1
    rw [renRows_len] at h2 h3
    exact ⟨l, a, k2, h2, h3, h4⟩
  | .es, v, _, hv => by simpa only [renA, RV] using hv
  | .fn f x y, v, hr, hv => by
    simp only [renA, RV] at hv ⊢
    obtain ⟨a, b, rfl, h1, h2⟩ := hv
    have hr : A.refsL H0.length x = true ∧ A.refsL H0.length y = true := by simpa [A.refs] using hr
    exact ⟨a, b, rfl, RVs.ren h hS hg x _ hr.1 h1, RVs.ren h hS hg y _ hr.2 h2⟩
  | .nilp, v, _, hv => by simpa only [renA, RV] using hv
  | .nilf, v, _, hv => by simpa only [renA, RV] using hv
  | .mp o, v, hr, hv => by
    simp only [renA, RV] at hv ⊢
    have ho : o < H0.length := blt_out (by simpa [A.refs] using hr)
    obtain ⟨p, hp, e⟩ := h.at ho
    rw [e] at hv
    refine ⟨hv.1, ho, fun k es hc => ?_⟩
    obtain ⟨l, h1, h2⟩ := hv.2.2 _ _ (h.ob o p _ hp hc)
    obtain ⟨l', k1, k2⟩ := h.loc hS hp hc
    rw [h1] at k1
    cases k1
    exact ⟨l, k2, h2⟩
  | .nilm, v, _, hv => by simpa only [renA, RV] using hv
theorem RVs.ren {g g' : Nat → Prop} (h : Iso n π env H env0 H0) (hS : ρ.length = H.length) (hg : ∀ b, g b → g' b) : ∀ (xs : List A) (vs : List Value), A.refsL H0.length xs = true → RVs ρ H g w (renAs π xs) vs → RVs (rho π ρ) H0 g' w xs vs
  | [], vs, _, hv => by simpa only [renAs, RVs] using hv
  | x :: xs, vs, hr, hv => by
    simp only [renAs, RVs] at hv ⊢
    simp only [A.refsL, Bool.and_eq_true] at hr
    obtain ⟨v, r, rfl, h1, h2⟩ := hv
    exact ⟨v, r, rfl, RV.ren h hS hg x v hr.1 h1, RVs.ren h hS hg xs r hr.2 h2⟩
end
theorem RVcells.ren {g g' : Nat → Prop} (h : Iso n π env H env0 H0) (hS : ρ.length = H.length) (hg : ∀ b, g b → g' b) : ∀ (xs : List A) (blk off : Nat), A.refsL H0.length xs = true → RVcells ρ H g w (renAs π xs) blk off → RVcells (rho π ρ) H0 g' w xs blk off
  | [], _, _, _, _ => by simp [RVcells]
  | x :: xs, blk, off, hr, hv => by
    simp only [renAs, RVcells] at hv ⊢
    simp only [A.refsL, Bool.and_eq_true] at hr
    obtain ⟨h1, ⟨u, h2, h3⟩, h4⟩ := hv
    exact ⟨by rwa [renA_one] at h1, ⟨u, h2, RV.ren h hS hg x u hr.1 h3⟩, RVcells.ren h hS hg xs blk _ hr.2 h4⟩
theorem RVrows.ren {g g' : Nat → Prop} (h : Iso n π env H env0 H0) (hS : ρ.length = H.length) (hg : ∀ b, g b → g' b) (es : Nat) : ∀ (rs : List (List A)) (blk off : Nat), refsR H0.length rs = true → RVrows ρ H g w es (renRows π rs) blk off → RVrows (rho π ρ) H0 g' w es rs blk off
  | [], _, _, _, _ => by simp [RVrows]
  | r :: rs, blk, off, hr, hv => by
    simp only [renRows, RVrows] at hv ⊢
    simp only [refsR, Bool.and_eq_true] at hr
    exact ⟨by rw [← hv.1, renAs_len], RVcells.ren h hS hg r blk off hr.1 hv.2.1, RVrows.ren h hS hg es rs blk _ hr.2 hv.2.2⟩
theorem Ents.ren {g g' : Nat → Prop} (h : Iso n π env H env0 H0) (hS : ρ.length = H.length) (hg : ∀ b, g b → g' b) {k : IntKind} : ∀ (xs : List (Int × A)) (es : List MapEntry), refsE H0.length xs = true → Ents ρ H g w k (renEs π xs) es → Ents (rho π ρ) H0 g' w k xs es
  | [], es, _, hv => by simpa only [renEs, Ents] using hv
  | x :: xs, es, hr, hv => by
    simp only [renEs, Ents] at hv ⊢
    simp only [refsE, Bool.and_eq_true] at hr
    obtain ⟨e, r, rfl, h1, h2, h3, h4⟩ := hv
    exact ⟨e, r, rfl, h1, h2, RV.ren h hS hg _ _ hr.1 h3, Ents.ren h hS hg xs r hr.2 h4⟩
theorem Iso.sim (h : Iso n π env H env0 H0) (hS : SimH G wb ρ H w) : SimH G wb (rho π ρ) H0 w := by
  refine ⟨by unfold rho; rw [List.length_map, h.len], hS.base, ?_, ?_, ?_, hS.gup, ?_⟩
  · intro o l ob hl ho
    obtain ⟨p, hp, q1, q2⟩ := h.back hS.len hl ho
    have hr := refsH_get h.rh ho
    have hok := hS.ok p l _ q1 q2
    cases ob with
    | box cs =>
      simp only [renOb, ObOk] at hok ⊢
      obtain ⟨vs, T, h1, h2⟩ := hok
      exact ⟨vs, T, h1, RVs.ren h hS.len (h.gd hS.len) cs _ hr h2⟩
    | vec g es els =>
      simp only [renOb, ObOk] at hok ⊢
      obtain ⟨h1, h2, h3, h4, h5⟩ := hok
      rw [renRows_len] at h1
      exact ⟨h1, h2, h3, h4, RVrows.ren h hS.len (h.gd hS.len) es els _ _ hr h5⟩
    | map k es =>
      simp only [renOb, ObOk] at hok ⊢
      obtain ⟨ents, c, h1, h2⟩ := hok
      exact ⟨ents, c, h1, Ents.ren h hS.len (h.gd hS.len) es _ hr h2⟩
    | gone => trivial
  · intro o l ob hl ho hw
    obtain ⟨p, hp, q1, q2⟩ := h.back hS.len hl ho
    exact hS.lt p l _ q1 q2 (renOb_owns _ _ hw)
  · intro o o' l l' ob ob' hl hl' ho ho' hw hw' e
    obtain ⟨p, hp, q1, q2⟩ := h.back hS.len hl ho
    obtain ⟨p', hp', q1', q2'⟩ := h.back hS.len hl' ho'
    have := hS.inj p p' l l' _ _ q1 q1' q2 q2' (renOb_owns _ _ hw) (renOb_owns _ _ hw') e
    subst this
    exact h.inj o o' p hp hp'
  · intro o l ob hl ho hw
    obtain ⟨p, hp, q1, q2⟩ := h.back hS.len hl ho
    exact hS.gown p l _ q1 q2 (renOb_owns _ _ hw)
theorem Turns.ren {ob ob' : Ob} {l l' : Loc} (h : Turns ob (renOb π ob') l l') : Turns ob ob' l l' := by
  rcases h with h | h
  · left
    cases ob' <;> first | rfl | (cases h)
  · right
    cases ob with
    | box cs =>
      obtain ⟨⟨cs', h⟩, h2⟩ := h
      cases ob' <;> simp only [renOb, reduceCtorEq] at h
      exact ⟨⟨_, rfl⟩, h2⟩
    | vec g es els =>
      obtain ⟨g', els', h, h1, h2⟩ := h
      cases ob' <;> simp only [renOb, reduceCtorEq, Ob.vec.injEq] at h
      obtain ⟨rfl, rfl, rfl⟩ := h
      refine ⟨_, _, rfl, h1, fun e => ?_⟩
      have := h2 e
      rwa [renRows_len] at this
    | map k es =>
      obtain ⟨⟨es', h⟩, h2⟩ := h
      cases ob' <;> simp only [renOb, reduceCtorEq, Ob.map.injEq] at h
      obtain ⟨rfl, rfl⟩ := h
      exact ⟨⟨_, rfl⟩, h2⟩
    | gone => exact h.elim
theorem Iso.step (h : Iso n π env H env0 H0) (hl : ρ.length = H.length) {ρs : List Loc} {Hs : List Ob} {ws : World} (hn : Hs.length = n) (hs : Step ρs Hs ws ρ H w) : Step ρs Hs ws (rho π ρ) H0 w := by
  refine ⟨hs.os, hs.tape, hs.output, hs.size, hs.same, fun b hb ho => hs.own b hb (h.owned hl ho), by rw [hn]; exact h.le, ?_⟩
  intro o l ob h1 h2
  have hlt : o < n := by rw [← hn]; exact (List.getElem?_eq_some_iff.1 h2).1
  have hp := h.old o hlt
  have h0 : o < H0.length := Nat.lt_of_lt_of_le hlt h.le
  have hob0 : H0[o]? = some H0[o] := List.getElem?_eq_getElem h0
  obtain ⟨l', ob', a1, a2, t⟩ := hs.turn o l ob h1 h2
  obtain ⟨l'', k1, k2⟩ := h.loc hl hp hob0
  rw [a1] at k1
  cases k1
  have := h.ob o o _ hp hob0
  rw [a2] at this
  cases this
  exact ⟨l', _, k2, hob0, t.ren⟩
theorem TriS.iso {c : Code} {Q : Ex → List A → List Ob → Prop} (h : TriS P wb c env H fun e env' H' => ∃ π env0 H0, Iso H.length π env' H' env0 H0 ∧ Q e env0 H0) : TriS P wb c env H Q := by
  refine ⟨fun G ρ a w hS hd hE => ?_⟩
  refine wp_mono (h.out G ρ a w hS hd hE) ?_
  rintro e a' w' ⟨e', ρ', env', H', he, ⟨π, env0, H0, hi, hq⟩, h2, h3, h4, h5⟩
  refine ⟨e', rho π ρ', env0, H0, he, hq, hi.sim h2, h3, ?_, hi.step h2.len rfl h5⟩
  rw [hi.env] at h4
  exact RVs.ren hi h2.len (hi.gd h2.len) _ _ hi.re h4
theorem callOk_iso {f : Nat} {xs : List A} {R : A → List Ob → Prop} (h : CallOk P wb f xs H fun r H' => ∃ π r0 H0, Iso H.length π [r] H' [r0] H0 ∧ R r0 H0) : CallOk P wb f xs H R := by
  refine ⟨h.ent, fun G ρ w vs hS hv => (h.out G ρ w vs hS hv).mono ?_⟩
  rintro e w' ⟨v, r, ρ', H', rfl, ⟨π, r0, H0, hi, hr⟩, h2, h3, h4⟩
  refine ⟨v, r0, rho π ρ', H0, rfl, hr, hi.sim h2, ?_, hi.step h2.len rfl h4⟩
  have he := hi.env
  simp only [renAs, List.cons.injEq, and_true] at he
  rw [he] at h3
  exact RV.ren hi h2.len (hi.gd h2.len) _ _ (by simpa [A.refsL] using hi.re) h3
theorem callOk_iso2 {f : Nat} {xs : List A} {R : A → List Ob → Prop} (h : CallOk P wb f xs H fun r H' => R r H' ∨ ∃ π r0 H0, Iso H.length π [r] H' [r0] H0 ∧ R r0 H0) : CallOk P wb f xs H R := by
  refine ⟨h.ent, fun G ρ w vs hS hv => (h.out G ρ w vs hS hv).mono ?_⟩
  rintro e w' ⟨v, r, ρ', H', rfl, hd, h2, h3, h4⟩
  rcases hd with hd | ⟨π, r0, H0, hi, hr⟩
  · exact ⟨v, r, ρ', H', rfl, hd, h2, h3, h4⟩
  refine ⟨v, r0, rho π ρ', H0, rfl, hr, hi.sim h2, ?_, hi.step h2.len rfl h4⟩
  have he := hi.env
  simp only [renAs, List.cons.injEq, and_true] at he
  rw [he] at h3
  exact RV.ren hi h2.len (hi.gd h2.len) _ _ (by simpa [A.refsL] using hi.re) h3
end
end Go.DL
