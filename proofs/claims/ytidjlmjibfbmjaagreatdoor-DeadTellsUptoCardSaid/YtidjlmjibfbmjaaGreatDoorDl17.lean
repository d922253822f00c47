/- Soundness of the plans. -/
import Derived.Test.YtidjlmjibfbmjaaGreatDoorDl16
namespace Go.DL
open Go.RowKit

theorem getK_eq : ∀ (env : List A) (t : Nat) (K : A → Prop), getK env t K = K ((env[t]?).getD .undef)
  | [], _, _ => by simp [getK]
  | x :: _, 0, _ => by simp [getK]
  | _ :: xs, n + 1, K => by simp only [getK, getK_eq xs n K]; simp
def setDst (env : List A) (d : Option Nat) (v : A) : List A := match d with
  | some d => env.set d v
  | none => env
theorem setK_eq {α : Type} : ∀ (l : List α) (n : Nat) (v : α) (K : List α → Prop), setK l n v K = K (l.set n v)
  | [], _, _, _ => by simp [setK]
  | _ :: xs, 0, v, K => by simp [setK]
  | x :: xs, n + 1, v, K => by simp only [setK, setK_eq xs n v]; simp
theorem putK_eq (env : List A) (d : Option Nat) (v : A) (K : List A → Prop) : putK env d v K = K (setDst env d v) := by
  cases d with
  | none => rfl
  | some d =>
    have e := setK_eq env d v K
    show _ = K (env.set d v)
    rw [← e]
    cases v with
    | d y => cases y with
      | b t => cases t <;> rfl
      | _ => rfl
    | _ => rfl
theorem opAt_out : ∀ {all : List Oper} {i : Nat} {K : Oper → Prop}, opAt all i K → ∃ o, all[i]? = some o ∧ K o
  | [], _, _, h => h.elim
  | o :: _, 0, _, h => ⟨o, rfl, h⟩
  | _ :: r, n + 1, K, h => by simpa using opAt_out (all := r) (i := n) (K := K) h

def wantE (all : List Oper) (o : Oper) (env : List A) : Option Bool := match o.guard with
  | none => some true
  | some (j, want) => match (all[j]?).bind (·.dst) with
    | some d => match (env[d]?).getD .undef with
      | .d (.b t) => some (t == want)
      | .tup _ => some false
      | _ => none
    | none => none
def Clos (all : List Oper) (L : List Nat) : Prop := ∀ r ∈ L, ∀ o, all[r]? = some o → ∀ i ∈ deps o, i ∈ L
structure IsEnv (all : List Oper) (env0 : List A) (L : List Nat) (x : Nat → A) (env : List A) : Prop where
  len : env.length = env0.length
  set : ∀ r o d, all[r]? = some o → o.dst = some d → r ∈ L → d < env0.length → env[d]? = some (x r)
  old : ∀ t, (∀ r o, all[r]? = some o → r ∈ L → o.dst ≠ some t) → env[t]? = env0[t]?
def upd (x : Nat → A) (r : Nat) (v : A) : Nat → A := fun k => if k = r then v else x k

section
variable {P : Program} {wb : World} {Θ : List (Nat × TI)} {all : List Oper} {env0 : List A}
theorem opG_out {o : Oper} {env : List A} {H : List Ob} {K : List A → List Ob → Prop} (h : opG P wb Θ all o env H K) :
    (wantE all o env = some true ∧ opD P wb Θ o.op env H fun v H' => K (setDst env o.dst v) H') ∨ (wantE all o env = some false ∧ K (setDst env o.dst (.tup [])) H) := by
  unfold opG at h
  unfold wantE
  cases hg : o.guard with
  | none =>
    rw [hg] at h
    simp only [putK_eq] at h
    exact .inl ⟨rfl, h⟩
  | some jw =>
    obtain ⟨j, want⟩ := jw
    rw [hg] at h
    obtain ⟨oj, d, hj, hd, h1⟩ := dstK_out h
    rw [getK_eq] at h1
    simp only [hj, Option.bind_some, hd]
    cases hv : (env[d]?).getD .undef with
    | d y =>
      rw [hv] at h1
      cases y with
      | b t =>
        cases t <;> cases want <;> simp only [putK_eq] at h1
        · exact .inl ⟨rfl, h1⟩
        · exact .inr ⟨rfl, h1⟩
        · exact .inr ⟨rfl, h1⟩
        · exact .inl ⟨rfl, h1⟩
      | _ => exact h1.elim
    | tup vs =>
      rw [hv] at h1
      simp only [putK_eq] at h1
      exact .inr ⟨rfl, h1⟩
    | _ => rw [hv] at h1; exact h1.elim

theorem confl_out (hc : conflB all = true) {p r : Nat} {op or : Oper} (hp : all[p]? = some op) (hr : all[r]? = some or) {d : Nat} (hd : or.dst = some d) :
    (d ∈ looks all op → p = r ∨ r ∈ deps op ∨ p ∈ deps or) ∧ (op.dst = some d → p = r) := by
  unfold conflB at hc
  rw [List.all_eq_true] at hc
  have h1 := hc p (by rw [List.mem_range]; exact (List.getElem?_eq_some_iff.1 hp).1)
  rw [List.all_eq_true] at h1
  have h2 := h1 r (by rw [List.mem_range]; exact (List.getElem?_eq_some_iff.1 hr).1)
  simp only [hp, hr, hd, Bool.and_eq_true, Bool.or_eq_true, Bool.not_eq_true', beq_iff_eq, List.contains_iff_mem, bne_iff_ne, ne_eq] at h2
  refine ⟨fun hm => ?_, fun hm => ?_⟩
  · rcases h2.1 with ((h | h) | h) | h
    · have : (looks all op).contains d = true := List.contains_iff_mem.2 hm
      rw [this] at h
      cases h
    · exact .inl h
    · exact .inr (.inl h)
    · exact .inr (.inr h)
  · rcases h2.2 with h | h
    · exact h
    · exact absurd hm h

theorem IsEnv.step (hc : conflB all = true) {L : List Nat} {x : Nat → A} {env : List A} (h : IsEnv all env0 L x env) {r : Nat} {o : Oper} (ho : all[r]? = some o) (hr : r ∉ L) (v : A) :
    IsEnv all env0 (r :: L) (upd x r v) (setDst env o.dst v) := by
  have hlen : (setDst env o.dst v).length = env0.length := by
    unfold setDst
    split <;> simp [h.len]
  refine ⟨hlen, ?_, ?_⟩
  · intro r' o' d ho' hd hr' hlt
    simp only [List.mem_cons] at hr'
    by_cases e : r' = r
    · subst e
      rw [ho] at ho'
      cases ho'
      simp only [setDst, hd, upd, if_true]
      rw [List.getElem?_set_self (by rw [h.len]; exact hlt)]
    · have hr'' := hr'.resolve_left e
      have hne : o.dst ≠ some d := fun hd' => e ((confl_out hc ho' ho hd').2 hd)
      have : (setDst env o.dst v)[d]? = env[d]? := by
        unfold setDst
        split
        · rename_i d' hd'
          rw [List.getElem?_set_ne (fun e' => hne (by rw [hd', e']))]
        · rfl
      rw [this, h.set r' o' d ho' hd hr'' hlt]
      simp [upd, e]
  · intro t ht
    have hne : o.dst ≠ some t := ht r o ho (by simp)
    have : (setDst env o.dst v)[t]? = env[t]? := by
      unfold setDst
      split
      · rename_i d' hd'
        rw [List.getElem?_set_ne (fun e' => hne (by rw [hd', e']))]
      · rfl
    rw [this]
    exact h.old t fun r' o' ho' hr' => ht r' o' ho' (by simp [hr'])
theorem IsEnv.congr {L : List Nat} {x y : Nat → A} {env : List A} (h : IsEnv all env0 L x env) (hxy : ∀ r ∈ L, x r = y r) : IsEnv all env0 L y env :=
  ⟨h.len, fun r o d ho hd hr hlt => by rw [← hxy r hr]; exact h.set r o d ho hd hr hlt, h.old⟩
theorem upd_ne {x : Nat → A} {r : Nat} {v : A} {L : List Nat} (h : r ∉ L) : ∀ k ∈ L, x k = upd x r v k := by
  intro k hk
  have hne : k ≠ r := by
    intro e
    subst e
    exact h hk
  simp [upd, hne]

theorem IsEnv.agree (hc : conflB all = true) {L L' : List Nat} {x : Nat → A} {env env' : List A} (h : IsEnv all env0 L x env) (h' : IsEnv all env0 L' x env') (hL : Clos all L) (hL' : Clos all L')
    {p : Nat} {o : Oper} (ho : all[p]? = some o) (hp : p ∉ L) (hp' : p ∉ L') (hd : ∀ i ∈ deps o, i ∈ L) (hd' : ∀ i ∈ deps o, i ∈ L') {t : Nat} (ht : t ∈ looks all o) : env[t]? = env'[t]? := by
  by_cases hex : ∃ (r : Nat) (q : Oper), all[r]? = some q ∧ q.dst = some t
  · obtain ⟨r, or, hr, hrd⟩ := hex
    have uniq : ∀ r' o', all[r']? = some o' → o'.dst = some t → r' = r := fun r' o' h1 h2 => (confl_out hc h1 hr hrd).2 h2
    have outside : r ∉ L → r ∉ L' → env[t]? = env'[t]? := by
      intro n1 n2
      rw [h.old t (fun r' o' h1 h2 h3 => n1 (uniq r' o' h1 h3 ▸ h2)), h'.old t (fun r' o' h1 h2 h3 => n2 (uniq r' o' h1 h3 ▸ h2))]
    rcases (confl_out hc ho hr hrd).1 ht with e | e | e
    · subst e; exact outside hp hp'
    · by_cases hlt : t < env0.length
      · rw [h.set r or t hr hrd (hd _ e) hlt, h'.set r or t hr hrd (hd' _ e) hlt]
      · rw [List.getElem?_eq_none (by rw [h.len]; omega), List.getElem?_eq_none (by rw [h'.len]; omega)]
    · exact outside (fun hm => hp (hL r hm or hr p e)) (fun hm => hp' (hL' r hm or hr p e))
  · have n1 : ∀ (M : List Nat) r o', all[r]? = some o' → r ∈ M → o'.dst ≠ some t := fun M r o' h1 _ h3 => hex ⟨r, o', h1, h3⟩
    rw [h.old t (n1 L), h'.old t (n1 L')]

theorem evK_agree {env env' : List A} {o : Oper} (h : ∀ t ∈ looks all o, env[t]? = env'[t]?) : ∀ x ∈ o.op.operands.toList, ∀ K : A → Prop, evK env x K = evK env' x K := by
  intro x hx K
  cases x with
  | tmp t =>
    have ht : t ∈ looks all o := List.mem_append_left _ (List.mem_filterMap.2 ⟨.tmp t, hx, rfl⟩)
    simp only [evK, getK_eq, h t ht]
  | _ => rfl
theorem wantE_agree {env env' : List A} {o : Oper} (h : ∀ t ∈ looks all o, env[t]? = env'[t]?) : wantE all o env = wantE all o env' := by
  unfold wantE
  cases hg : o.guard with
  | none => rfl
  | some jw =>
    obtain ⟨j, want⟩ := jw
    simp only
    cases hd : (all[j]?).bind (·.dst) with
    | none => rfl
    | some d =>
      have : d ∈ looks all o := by
        simp only [looks, hg, hd]
        exact List.mem_append_right _ (by simp)
      simp only [h d this]
theorem wanted_of {ρ : List Loc} {H : List Ob} {g : Nat → Prop} {w : World} {env : List A} {a : Act} (hE : RVs ρ H g w env a.tmps.toList) {o : Oper} {b : Bool} (h : wantE all o env = some b) :
    Region.wanted o (yielded all.toArray a.tmps) = b := by
  unfold wantE at h
  unfold Region.wanted
  cases hg : o.guard with
  | none => rw [hg] at h; simpa using h
  | some jw =>
    obtain ⟨j, want⟩ := jw
    rw [hg] at h
    simp only at h ⊢
    cases hd : (all[j]?).bind (·.dst) with
    | none => rw [hd] at h; cases h
    | some d =>
      rw [hd] at h
      simp only at h
      cases hv : (env[d]?).getD .undef with
      | d y =>
        cases y with
        | b t =>
          rw [hv] at h
          simp only [Option.some.injEq] at h
          have hex : env[d]? = some (.d (.b t)) := by
            cases he : env[d]? with
            | none => rw [he] at hv; cases hv
            | some z => rw [he] at hv; simp at hv; rw [hv]
          obtain ⟨v, hv1, hv2⟩ := hE.get hex
          simp only [RV, RD] at hv2
          subst hv2
          have : yielded all.toArray a.tmps j = some t := by
            have ht : a.tmps[d]? = some (.bool t) := by simpa using hv1
            simp [yielded, hd, ht]
          rw [this, ← h]
          rfl
        | _ => rw [hv] at h; cases h
      | tup vs =>
        rw [hv] at h
        simp only [Option.some.injEq] at h
        have hex : env[d]? = some (.tup vs) := by
          cases he : env[d]? with
          | none => rw [he] at hv; cases hv
          | some z => rw [he] at hv; simp at hv; rw [hv]
        obtain ⟨v, hv1, hv2⟩ := hE.get hex
        simp only [RV] at hv2
        obtain ⟨us, rfl, _⟩ := hv2
        have : yielded all.toArray a.tmps j = none := by
          have ht : a.tmps[d]? = some (.tuple us) := by simpa using hv1
          simp [yielded, hd, ht]
        rw [this, ← h]
        rfl
      | _ => rw [hv] at h; cases h

/-- what a looking operation yields, whatever objects are added -/
def Yield (P : Program) (wb : World) (Θ : List (Nat × TI)) (all : List Oper) (o : Oper) (v : A) (env : List A) (H : List Ob) : Prop :=
  (wantE all o env = some true ∧ (∀ (E : List Ob) (K' : A → List Ob → Prop), K' v (H ++ E) → opD P wb Θ o.op env (H ++ E) K') ∧
    (isPure o.op = true → ∀ (H' : List Ob) (K' : A → List Ob → Prop), K' v H' → opD P wb Θ o.op env H' K')) ∨ (wantE all o env = some false ∧ v = .tup [])
theorem Yield.ext {o : Oper} {v : A} {env : List A} {H : List Ob} (h : Yield P wb Θ all o v env H) (E : List Ob) : Yield P wb Θ all o v env (H ++ E) := by
  rcases h with ⟨h1, h2, h3⟩ | h
  · refine .inl ⟨h1, fun E' K' hk => ?_, h3⟩
    rw [List.append_assoc] at hk ⊢
    exact h2 _ _ hk
  · exact .inr h
theorem Yield.pure {o : Oper} {v : A} {env : List A} {H : List Ob} (h : Yield P wb Θ all o v env H) (hp : isPure o.op = true) (H' : List Ob) : Yield P wb Θ all o v env H' := by
  rcases h with ⟨h1, _, h3⟩ | h
  · exact .inl ⟨h1, fun E K' hk => h3 hp _ _ hk, h3⟩
  · exact .inr h

def Ready (all : List Oper) (L : List Nat) (j : Nat) (o : Oper) : Prop := all[j]? = some o ∧ j ∉ L ∧ ∀ i ∈ deps o, i ∈ L

structure St (P : Program) (wb : World) (Θ : List (Nat × TI)) (G : Nat → Prop) (all : List Oper) (env0 : List A) (ρ0 : List Loc) (H0 : List Ob) (w0 : World)
    (La Ld : List Nat) (x : Nat → A) (envA envD : List A) (ρ : List Loc) (H : List Ob) (a : Act) (w : World) (listed : Array Bool) : Prop where
  hS : SimH G wb ρ H w
  hd : a.defers = []
  hE : RVs ρ H (gd G ρ H) w envA a.tmps.toList
  eA : IsEnv all env0 La x envA
  eD : IsEnv all env0 Ld x envD
  sub : ∀ i ∈ La, i ∈ Ld
  clA : Clos all La
  clD : Clos all Ld
  pend : ∀ p ∈ Ld, p ∉ La → ∃ o Lp envp, all[p]? = some o ∧ isStill o.op = true ∧ IsEnv all env0 Lp x envp ∧ p ∉ Lp ∧ Clos all Lp ∧ (∀ i ∈ deps o, i ∈ Lp) ∧ (∀ i ∈ Lp, i ∈ Ld) ∧ Yield P wb Θ all o (x p) envp H
  step : Step ρ0 H0 w0 ρ H w
  lsize : listed.size = all.length
  lmem : ∀ i, i < all.length → (listed.getD i false = true ↔ i ∈ La)
  inA : ∀ i ∈ Ld, i < all.length

def left (all : List Oper) (L : List Nat) : Nat := ((List.range all.length).filter fun i => !L.contains i).length

theorem left_cons {L : List Nat} {j : Nat} (hj : j < all.length) (hn : j ∉ L) : left all L = left all (j :: L) + 1 := by
  unfold left
  have key : ∀ l : List Nat, l.Nodup → j ∈ l → (l.filter fun i => !L.contains i).length = (l.filter fun i => !(j :: L).contains i).length + 1 := by
    intro l
    induction l with
    | nil => intro _ h; cases h
    | cons y ys ih =>
      intro hnd hm
      rw [List.nodup_cons] at hnd
      by_cases e : y = j
      · subst e
        have h1 : (!L.contains y) = true := by simp [hn]
        have h2 : (!(y :: L).contains y) = false := by simp
        rw [List.filter_cons_of_pos (p := fun i => !L.contains i) h1, List.filter_cons_of_neg (p := fun i => !(y :: L).contains i) (by rw [h2]; simp)]
        have : ys.filter (fun i => !L.contains i) = ys.filter fun i => !(y :: L).contains i := by
          apply List.filter_congr
          intro z hz
          have : z ≠ y := fun e => hnd.1 (e ▸ hz)
          simp [this]
        rw [this]
        rfl
      · have hm' : j ∈ ys := by
          rcases List.mem_cons.1 hm with h | h
          · exact absurd h.symm e
          · exact h
        have ih := ih hnd.2 hm'
        have h3 : (j :: L).contains y = L.contains y := by simp [e]
        by_cases hy : L.contains y = true
        · rw [List.filter_cons_of_neg (p := fun i => !L.contains i) (by rw [hy]; simp), List.filter_cons_of_neg (p := fun i => !(j :: L).contains i) (by rw [h3, hy]; simp)]
          exact ih
        · have hy : L.contains y = false := by simpa using hy
          rw [List.filter_cons_of_pos (p := fun i => !L.contains i) (by rw [hy]; rfl), List.filter_cons_of_pos (p := fun i => !(j :: L).contains i) (by rw [h3, hy]; rfl)]
          simp only [List.length_cons]
          omega
  exact key _ List.nodup_range (List.mem_range.2 hj)
theorem left_zero {L : List Nat} (h : left all L = 0) : ∀ i, i < all.length → i ∈ L := by
  intro i hi
  have : (List.range all.length).filter (fun i => !L.contains i) = [] := List.eq_nil_of_length_eq_zero h
  rw [List.filter_eq_nil_iff] at this
  have := this i (List.mem_range.2 hi)
  simpa using this
theorem left_pos {L : List Nat} (h : 0 < left all L) : ∃ i, i < all.length ∧ i ∉ L ∧ ∀ k, k < i → k ∈ L := by
  have hex : ∃ i, i < all.length ∧ i ∉ L := by
    obtain ⟨i, hi⟩ := List.exists_mem_of_length_pos h
    rw [List.mem_filter, List.mem_range] at hi
    exact ⟨i, hi.1, by simpa using hi.2⟩
  obtain ⟨i, hi, hn⟩ := hex
  induction i using Nat.strongRecOn with
  | _ i ih =>
    by_cases hall : ∀ k, k < i → k ∈ L
    · exact ⟨i, hi, hn, hall⟩
    · have : ∃ k, k < i ∧ k ∉ L := by
        by_cases hh : ∃ k, k < i ∧ k ∉ L
        · exact hh
        · exact absurd (fun k hk => by
            by_cases hm : k ∈ L
            · exact hm
            · exact absurd ⟨k, hk, hm⟩ hh) hall
      obtain ⟨k, hk, hkn⟩ := this
      exact ih k hk (by omega) hkn
end
end Go.DL
