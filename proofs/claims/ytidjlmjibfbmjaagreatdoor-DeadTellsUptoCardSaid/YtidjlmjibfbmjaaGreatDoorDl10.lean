/- Soundness of the evaluator: regions, bodies, functions. -/
import Derived.Test.YtidjlmjibfbmjaaGreatDoorDl9
import Derived.Scope
namespace Go.DL
open Go.RowKit

/-- what stands when a piece of code is left -/
def Post (G : Nat → Prop) (wb : World) (ρ : List Loc) (H : List Ob) (w : World) (Q : Ex → List A → List Ob → Prop) (e : Exit) (a' : Act) (w' : World) : Prop :=
  ∃ e' ρ' env' H', Ex.of e e' ∧ Q e' env' H' ∧ SimH G wb ρ' H' w' ∧ a'.defers = [] ∧ RVs ρ' H' (gd G ρ' H') w' env' a'.tmps.toList ∧ Step ρ H w ρ' H' w'

section
variable {P : Program} {wb : World} {Θ : List (Nat × TI)} {G : Nat → Prop}
theorem Post.after {ρ ρ' : List Loc} {H H' : List Ob} {w w' : World} {Q : Ex → List A → List Ob → Prop} (hs : Step ρ H w ρ' H' w') {e : Exit} {a : Act} {w2 : World} (h : Post G wb ρ' H' w' Q e a w2) : Post G wb ρ H w Q e a w2 := by
  obtain ⟨e', ρ2, env', H2, h1, h2, h3, h4, h5, h6⟩ := h
  exact ⟨e', ρ2, env', H2, h1, h2, h3, h4, h5, hs.trans h6⟩
theorem Post.mono {ρ : List Loc} {H : List Ob} {w : World} {Q Q' : Ex → List A → List Ob → Prop} (hq : ∀ e env H, Q e env H → Q' e env H) {e : Exit} {a : Act} {w2 : World} (h : Post G wb ρ H w Q e a w2) : Post G wb ρ H w Q' e a w2 := by
  obtain ⟨e', ρ2, env', H2, h1, h2, h3⟩ := h
  exact ⟨e', ρ2, env', H2, h1, hq _ _ _ h2, h3⟩
theorem TriS.mono {c : Code} {env : List A} {H : List Ob} {Q Q' : Ex → List A → List Ob → Prop} (h : TriS P wb c env H Q) (hq : ∀ e env H, Q e env H → Q' e env H) : TriS P wb c env H Q' :=
  ⟨fun G ρ a w hS hd hE => wp_mono (h.out G ρ a w hS hd hE) fun _ _ _ hp => Post.mono (G := G) hq hp⟩

theorem putK_out {ρ : List Loc} {H : List Ob} {g : Nat → Prop} {w : World} {a : Act} {env : List A} (hE : RVs ρ H g w env a.tmps.toList) {dst : Option Nat} {x : A} {v : Value} (hx : RV ρ H g w x v)
    {K : List A → Prop} (h : putK env dst x K) : ∃ env', K env' ∧ RVs ρ H g w env' (a.put dst v).tmps.toList := by
  cases dst with
  | none => exact ⟨env, h, hE⟩
  | some d =>
    have h' : setK env d x K := by
      cases x with
      | d y =>
        cases y with
        | b t => cases t <;> exact h
        | _ => exact h
      | _ => exact h
    exact ⟨_, setK_out _ _ _ _ h', by simpa [Act.put] using hE.set d hx⟩
theorem put_defers (a : Act) (dst : Option Nat) (v : Value) : (a.put dst v).defers = a.defers := by cases dst <;> rfl
theorem dstK_out : ∀ {all : List Oper} {j : Nat} {K : Nat → Prop}, dstK all j K → ∃ o d, all[j]? = some o ∧ o.dst = some d ∧ K d
  | [], _, _, h => h.elim
  | o :: r, 0, K, h => by
    simp only [dstK] at h
    cases hd : o.dst with
    | none => rw [hd] at h; exact h.elim
    | some d => rw [hd] at h; exact ⟨o, d, by simp, hd, h⟩
  | o :: r, n + 1, K, h => by
    simp only [dstK] at h
    simpa using dstK_out h
theorem yielded_of {ops : Array Oper} {tmps : Array Value} {j d : Nat} {o : Oper} {t : Bool} (ho : ops[j]? = some o) (hd : o.dst = some d) (h : tmps.getD d undef = .bool t) : yielded ops tmps j = some t ∧ tmps[d]? = some (.bool t) := by
  have : tmps[d]? = some (.bool t) := by
    rw [Array.getD_eq_getD_getElem?] at h
    cases hh : tmps[d]? with
    | none => rw [hh] at h; simp [undef] at h
    | some v => rw [hh] at h; simp at h; rw [h]
  exact ⟨by simp [yielded, ho, hd, this], this⟩

/-- one operation that is wanted -/
theorem op_out (hΘ : ΘOk P Θ) {ρ : List Loc} {H : List Ob} {w : World} {a : Act} {env : List A} (hS : SimH G wb ρ H w) (hd : a.defers = []) (hE : RVs ρ H (gd G ρ H) w env a.tmps.toList) {o : Oper}
    {L : List A → List Ob → Prop} (h : opD P wb Θ o.op env H fun v H' => putK env o.dst v fun env' => L env' H') {next : Act → World → Prop} {Q : Exit → Act → World → Prop}
    (hn : ∀ ρ' H' w' a' env', L env' H' → SimH G wb ρ' H' w' → a'.defers = [] → RVs ρ' H' (gd G ρ' H') w' env' a'.tmps.toList → Step ρ H w ρ' H' w' → next a' w') : o.wp P a w next Q := by
  have fin : ∀ v w', OpRes G wb ρ H w (fun v H' => putK env o.dst v fun env' => L env' H') v w' → next (a.put o.dst v) w' := by
    rintro v w' ⟨x, ρ', H', h1, h2, h3, h4⟩
    obtain ⟨env', h5, h6⟩ := putK_out (h4.rvs hS.len hE) h3 h1
    exact hn ρ' H' w' _ env' h5 h2 (by rw [put_defers, hd]) h6 h4
  have ho := opD_out hΘ hS hE h
  unfold Oper.wp
  revert ho
  generalize (execOp a.eval o).run P w = r
  intro ho
  cases ho with
  | val v w' h => rw [Oper.upon_value]; exact fin v w' h
  | skip w' h => rw [Oper.upon_skip]; exact fin _ w' h
  | call f args h =>
    rw [Oper.upon_enter]
    exact h.mono fun e w' ⟨v, he, h⟩ => by subst he; exact fin v w' h

theorem runOps_out (hΘ : ΘOk P Θ) {Q : Ex → List A → List Ob → Prop} {all : List Oper} {ρ0 : List Loc} {H0 : List Ob} {w0 : World} : ∀ (r done : List Oper) (_ : all = done ++ r) (ρ : List Loc) (H : List Ob) (w : World) (a : Act) (env : List A),
    Step ρ0 H0 w0 ρ H w → SimH G wb ρ H w → a.defers = [] → RVs ρ H (gd G ρ H) w env a.tmps.toList → (runOps P wb Θ all r env H fun e h => Q .normal e h) →
    wpOps P all.toArray (Post G wb ρ0 H0 w0 Q) (List.range' done.length r.length) a w
  | [], done, _, ρ, H, w, a, env, hs, hS, hd, hE, h => by
    simp only [List.length_nil, List.range'_zero, wpOps]
    exact ⟨.normal, ρ, env, H, trivial, h, hS, hd, hE, hs⟩
  | o :: r, done, hall, ρ, H, w, a, env, hs, hS, hd, hE, h => by
    have ho : all.toArray[done.length]? = some o := by simp [hall]
    have hall' : all = (done ++ [o]) ++ r := by simp [hall]
    have hlen : (done ++ [o]).length = done.length + 1 := by simp
    simp only [List.length_cons, List.range'_succ, wpOps, ho]
    have ih := fun ρ H w a env => runOps_out hΘ (Q := Q) (ρ0 := ρ0) (H0 := H0) (w0 := w0) r (done ++ [o]) hall' ρ H w a env
    rw [hlen] at ih
    have go : ∀ env1, RVs ρ H (gd G ρ H) w env1 a.tmps.toList → opD P wb Θ o.op env1 H (fun v H' => putK env1 o.dst v fun env' => runOps P wb Θ all r env' H' fun e h => Q .normal e h) →
        o.wp P a w (wpOps P all.toArray (Post G wb ρ0 H0 w0 Q) (List.range' (done.length + 1) r.length)) (Post G wb ρ0 H0 w0 Q) := by
      intro env1 hE1 h1
      refine op_out hΘ hS hd hE1 (L := fun env' H' => runOps P wb Θ all r env' H' fun e h => Q .normal e h) h1 ?_
      intro ρ' H' w' a' env' k1 k2 k3 k4 k5
      exact ih ρ' H' w' a' env' (hs.trans k5) k2 k3 k4 k1
    have skip : ∀ env1, RVs ρ H (gd G ρ H) w env1 a.tmps.toList → (putK env1 o.dst (.tup []) fun env' => runOps P wb Θ all r env' H fun e h => Q .normal e h) →
        wpOps P all.toArray (Post G wb ρ0 H0 w0 Q) (List.range' (done.length + 1) r.length) (a.put o.dst undef) w := by
      intro env1 hE1 h1
      obtain ⟨env', h5, h6⟩ := putK_out (v := undef) hE1 (by simp [RV, RVs, undef]) h1
      exact ih ρ H w _ env' hs hS (by rw [put_defers, hd]) h6 h5
    rw [runOps_cons] at h
    cases hg : o.guard with
    | none =>
      rw [hg] at h
      have hw : Region.wanted o (yielded all.toArray a.tmps) = true := by simp [Region.wanted, hg]
      rw [if_pos hw]
      exact .inl (go env hE h)
    | some jw =>
      obtain ⟨j, want⟩ := jw
      rw [hg] at h
      obtain ⟨oj, d, hj, hdst, h1⟩ := dstK_out h
      obtain ⟨gv, h2, hgv⟩ := getK_out hE d _ h1
      cases gv with
      | d x =>
        cases x with
        | b t =>
          simp only [RV, RD] at hgv
          have hgv' : a.tmps.getD d undef = .bool t := by
            rw [Array.getD_eq_getD_getElem?, ← Array.getElem?_toList, ← List.getD_eq_getElem?_getD]
            exact hgv
          obtain ⟨hy, hy2⟩ := yielded_of (ops := all.toArray) (o := oj) (by simpa using hj) hdst hgv'
          have hE1 : RVs ρ H (gd G ρ H) w (env.set d (.d (.b t))) a.tmps.toList := by
            have := hE.set d (x := .d (.b t)) (v := .bool t) (by simp [RV, RD])
            rw [set_self (l := a.tmps.toList) (i := d) (a := .bool t) (by simpa using hy2)] at this
            exact this
          have hw : Region.wanted o (yielded all.toArray a.tmps) = (t == want) := by
            simp [Region.wanted, hg, hy]
          rw [hw]
          cases t with
          | true =>
            have h3 := setK_out _ _ _ _ h2
            cases want with
            | true => rw [if_pos (by decide)]; exact .inl (go _ hE1 h3)
            | false => rw [if_neg (by decide)]; exact skip _ hE1 h3
          | false =>
            have h3 := setK_out _ _ _ _ h2
            cases want with
            | true => rw [if_neg (by decide)]; exact skip _ hE1 h3
            | false => rw [if_pos (by decide)]; exact .inl (go _ hE1 h3)
        | _ => exact h2.elim
      | tup vs =>
        simp only [RV] at hgv
        obtain ⟨us, hgv, _⟩ := hgv
        have hgv' : a.tmps.getD d undef = .tuple us := by
          rw [Array.getD_eq_getD_getElem?, ← Array.getElem?_toList, ← List.getD_eq_getElem?_getD]
          exact hgv
        have hn : yielded all.toArray a.tmps j = none := by
          rw [Array.getD_eq_getD_getElem?] at hgv'
          cases hh : a.tmps[d]? with
          | none => simp [yielded, hj, hdst, hh]
          | some v =>
            rw [hh] at hgv'
            simp at hgv'
            simp [yielded, hj, hdst, hh, hgv']
        have hw : Region.wanted o (yielded all.toArray a.tmps) = false := by simp [Region.wanted, hg, hn]
        rw [hw, if_neg (by decide)]
        exact skip _ hE h2
      | _ => exact h2.elim

theorem region_out (hΘ : ΘOk P Θ) {n : Nat} {ops : Array Oper} {env : List A} {H : List Ob} {Q : Ex → List A → List Ob → Prop} (h : runOps P wb Θ ops.toList ops.toList env H fun e h => Q .normal e h) :
    TriS P wb (.region n ops false) env H Q := by
  refine ⟨fun G ρ a w hS hd hE => wp_region ?_⟩
  have := runOps_out (G := G) hΘ ops.toList [] rfl ρ H w a env (.refl _ _ _) hS hd hE h
  change wpOps P ops (Post G wb ρ H w Q) _ _ _
  simpa [List.range_eq_range'] using this

theorem wpD_out (hΘ : ΘOk P Θ) : ∀ (c : Code) {env : List A} {H : List Ob} {Q : Ex → List A → List Ob → Prop}, wpD P wb Θ c env H Q → TriS P wb c env H Q
  | .skip, env, H, Q, h => ⟨fun G ρ a w hS hd hE => wp_skip ⟨.normal, ρ, env, H, trivial, h, hS, hd, hE, .refl _ _ _⟩⟩
  | .label _, env, H, Q, h => ⟨fun G ρ a w hS hd hE => wp_label ⟨.normal, ρ, env, H, trivial, h, hS, hd, hE, .refl _ _ _⟩⟩
  | .exit i, env, H, Q, h => ⟨fun G ρ a w hS hd hE => wp_exit ⟨.exit i, ρ, env, H, rfl, h, hS, hd, hE, .refl _ _ _⟩⟩
  | .ret, env, H, Q, h => ⟨fun G ρ a w hS hd hE => wp_ret ⟨.ret, ρ, env, H, trivial, h, hS, hd, hE, .refl _ _ _⟩⟩
  | .loop b, _, _, _, h => h
  | .region n ops true, _, _, _, h => h
  | .region n ops false, _, _, _, h => region_out hΘ h
  | .seq x y, env, H, Q, h => by
    have ihx := wpD_out hΘ x h
    refine ⟨fun G ρ a w hS hd hE => wp_seq (wp_mono (ihx.out G ρ a w hS hd hE) ?_)⟩
    rintro e a1 w1 ⟨e', ρ', env', H', h1, h2, h3, h4, h5, h6⟩
    cases e with
    | normal =>
      cases e' with
      | normal => exact wp_mono ((wpD_out hΘ y h2).out G ρ' a1 w1 h3 h4 h5) fun _ _ _ hp => Post.after (G := G) h6 hp
      | exit i => exact h1.elim
      | ret => exact h1.elim
    | exit i =>
      cases e' with
      | exit j => exact ⟨.exit j, ρ', env', H', h1, h2, h3, h4, h5, h6⟩
      | normal => exact h1.elim
      | ret => exact h1.elim
    | ret =>
      cases e' with
      | ret => exact ⟨.ret, ρ', env', H', h1, h2, h3, h4, h5, h6⟩
      | normal => exact h1.elim
      | exit j => exact h1.elim
    | goto l => cases e' <;> exact h1.elim
    | panic l => cases e' <;> exact h1.elim
    | outgrown => cases e' <;> exact h1.elim
  | .cond c x y, env, H, Q, h => by
    refine ⟨fun G ρ a w hS hd hE => ?_⟩
    obtain ⟨v, h1, hv⟩ := evK_out hE h
    cases v with
    | d z =>
      cases z with
      | b t =>
        simp only [RV, RD] at hv
        cases t with
        | true => exact wp_cond_true hv ((wpD_out hΘ x h1).out G ρ a w hS hd hE)
        | false => exact wp_cond_false hv ((wpD_out hΘ y h1).out G ρ a w hS hd hE)
      | _ => exact h1.elim
    | _ => exact h1.elim
  | .scope b, env, H, Q, h => by
    have ih := wpD_out hΘ b h
    refine ⟨fun G ρ a w hS hd hE => wp_scope_straight (wp_mono (ih.out G ρ a w hS hd hE) ?_)⟩
    rintro e a1 w1 ⟨e', ρ', env', H', h1, h2⟩
    cases e with
    | goto l => cases e' <;> exact h1.elim
    | _ => exact ⟨e', ρ', env', H', h1, h2⟩
  | .block id b, env, H, Q, h => by
    have ih := wpD_out hΘ b h
    refine ⟨fun G ρ a w hS hd hE => wp_block (wp_mono (ih.out G ρ a w hS hd hE) ?_)⟩
    rintro e a1 w1 ⟨e', ρ', env', H', h1, h2, h3, h4, h5, h6⟩
    cases e with
    | normal =>
      cases e' with
      | normal => exact ⟨.normal, ρ', env', H', trivial, h2, h3, h4, h5, h6⟩
      | exit i => exact h1.elim
      | ret => exact h1.elim
    | exit i =>
      cases e' with
      | exit j =>
        have h1 : i = j := h1
        subst h1
        by_cases hi : i = id
        · subst hi
          have hb : Nat.beq i i = true := Nat.beq_refl i
          simp only [hb] at h2
          simp only [Exit.inBlock, if_true]
          exact ⟨.normal, ρ', env', H', trivial, h2, h3, h4, h5, h6⟩
        · have hb : Nat.beq i id = false := by
            cases hb : Nat.beq i id with
            | false => rfl
            | true => exact absurd (Nat.eq_of_beq_eq_true hb) hi
          simp only [hb] at h2
          simp only [Exit.inBlock, hi, if_false]
          exact ⟨.exit i, ρ', env', H', rfl, h2, h3, h4, h5, h6⟩
      | normal => exact h1.elim
      | ret => exact h1.elim
    | ret =>
      cases e' with
      | ret => exact ⟨.ret, ρ', env', H', trivial, h2, h3, h4, h5, h6⟩
      | normal => exact h1.elim
      | exit j => exact h1.elim
    | goto l => cases e' <;> exact h1.elim
    | panic l => cases e' <;> exact h1.elim
    | outgrown => cases e' <;> exact h1.elim

def resOf (tmps : Array Value) (r : ResultVar) : Sem Value := match r with
  | .tmp t => pure (tmps.getD t undef)
  | .cell a t => do loadVar t (← asAddr (tmps.getD a undef))
theorem resK_out (hΘ : ΘOk P Θ) {ρ : List Loc} {H : List Ob} {w : World} {env : List A} {tmps : Array Value} (hS : SimH G wb ρ H w) (hE : RVs ρ H (gd G ρ H) w env tmps.toList) : ∀ (rs : List ResultVar) {K : List A → Prop}, resK Θ env H rs K →
    ∃ l vs, K l ∧ RVs ρ H (gd G ρ H) w l vs ∧ (rs.mapM (resOf tmps)).run P w = .ok vs w
  | [], K, h => ⟨[], [], h, by simp [RVs], by simp⟩
  | .tmp t :: rs, K, h => by
    simp only [resK] at h
    obtain ⟨y, h1, hy⟩ := getK_out hE t _ h
    obtain ⟨l, vs, h2, h3, h4⟩ := resK_out hΘ hS hE rs h1
    have hy' : RV ρ H (gd G ρ H) w y (tmps.getD t undef) := by
      rw [Array.getD_eq_getD_getElem?, ← Array.getElem?_toList, ← List.getD_eq_getElem?_getD]
      exact hy
    exact ⟨_, tmps.getD t undef :: vs, h2, by simp only [RVs]; exact ⟨_, _, rfl, hy', h3⟩, by
      have : (resOf tmps (.tmp t)).run P w = .ok (tmps.getD t undef) w := rfl
      simp only [List.mapM_cons, Sem.run_bind, this, Result.andThen_ok, h4]
      rfl⟩
  | .cell a t :: rs, K, h => by
    simp only [resK] at h
    obtain ⟨ti, ht, h1⟩ := tiK_out _ _ _ h
    obtain ⟨y, h2, hy⟩ := getK_out hE a _ h1
    have hy' : RV ρ H (gd G ρ H) w y (tmps.getD a undef) := by
      rw [Array.getD_eq_getD_getElem?, ← Array.getElem?_toList, ← List.getD_eq_getElem?_getD]
      exact hy
    cases y with
    | ptr o off =>
      obtain ⟨obj, hob, h3⟩ := getO_out _ _ _ h2
      cases obj with
      | box cs =>
        obtain ⟨lc, hl⟩ := hS.loc hob
        have hok := hS.ok _ _ _ hl hob
        simp only [ObOk] at hok
        obtain ⟨vs, T, e1, e2⟩ := hok
        simp only [RV] at hy'
        obtain ⟨l', hl', e3⟩ := hy'.2.2 _ hob
        rw [hl] at hl'
        cases hl'
        obtain ⟨z, v, k1, k2, k3⟩ := ldA_out (hΘ _ _ ht) e2 (blk := lc.blk) (base := 0) (fun j u hu => cells_at e1 0 j u (by simpa using hu)) h3
        obtain ⟨l, vs', h5, h6, h7⟩ := resK_out hΘ hS hE rs k1
        rw [Nat.zero_add] at k3
        refine ⟨_, v :: vs', h5, by simp only [RVs]; exact ⟨_, _, rfl, k2, h6⟩, ?_⟩
        have : (resOf tmps (.cell a t)).run P w = .ok v w := by simp only [resOf, e3]; simp [asAddr, k3]
        simp only [List.mapM_cons, Sem.run_bind, this, Result.andThen_ok, h7]
        rfl
      | _ => exact h3.elim
    | _ => exact h2.elim

theorem callOk_intro (hΘ : ΘOk P Θ) {f : Nat} {fn : Func} {xs : List A} {H : List Ob} {R : A → List Ob → Prop} (hf : P.funcs[f]? = some fn)
    (he : ∀ (args : Array Value) (w : World), (callFunc f args).run P w = .ok (.enter f args) w) (h : wpF P wb Θ fn xs H R) : CallOk P wb f xs H R := by
  refine ⟨he, fun G ρ w vs hS hv => ?_⟩
  unfold wpF at h
  cases hb : fn.body with
  | none => rw [hb] at h; exact h.elim
  | some c =>
    rw [hb] at h
    have hl := hv.length
    have hE : RVs ρ H (gd G ρ H) w (xs ++ List.replicate (fn.ntmps - xs.length) .undef) (vs.toArray ++ Array.replicate (fn.ntmps - vs.toArray.size) undef).toList := by
      simp only [Array.toList_append, List.size_toArray, Array.toList_replicate, hl]
      exact hv.append (RVs.replicate _ _)
    refine calls_of_wp hf hb (wp_mono ((wpD_out hΘ c h).out G ρ _ w hS rfl hE) ?_)
    rintro e a1 w1 ⟨e', ρ', env', H', h1, h2, h3, h4, h5, h6⟩
    have fin : (resK Θ env' H' fn.results.toList fun l => oneK l fun r => R r H') → a1.defers = [] ∧ ∃ v, (results fn a1.tmps).run P w1 = .ok v w1 ∧ ∃ v' r ρ2 H2, Ending.returned v = .returned v' ∧ R r H2 ∧ SimH G wb ρ2 H2 w1 ∧ RV ρ2 H2 (gd G ρ2 H2) w1 r v' ∧ Step ρ H w ρ2 H2 w1 := by
      intro hr
      refine ⟨h4, ?_⟩
      obtain ⟨l, vs', k1, k2, k3⟩ := resK_out hΘ h3 h5 fn.results.toList hr
      have hm : (results fn a1.tmps).run P w1 = .ok (if h : vs'.toArray.size = 1 then vs'.toArray[0] else .tuple vs'.toArray) w1 := by
        have e : results fn a1.tmps = (do let vs ← fn.results.mapM (resOf a1.tmps); pure (if h : vs.size = 1 then vs[0] else .tuple vs)) := rfl
        rw [e, Array.mapM_eq_mapM_toList]
        simp [k3]
      refine ⟨_, hm, ?_⟩
      have many : vs'.length ≠ 1 → R (.tup l) H' → ∃ v' r ρ2 H2, Ending.returned (if h : vs'.toArray.size = 1 then vs'.toArray[0] else .tuple vs'.toArray) = .returned v' ∧ R r H2 ∧ SimH G wb ρ2 H2 w1 ∧ RV ρ2 H2 (gd G ρ2 H2) w1 r v' ∧ Step ρ H w ρ2 H2 w1 := by
        intro hne1 hk
        refine ⟨_, .tup l, ρ', H', rfl, hk, h3, ?_, h6⟩
        rw [dif_neg (by simpa using hne1)]
        simp only [RV]
        exact ⟨_, rfl, by simpa using k2⟩
      have hlen := k2.length
      cases l with
      | nil => exact many (by simp at hlen; simp [hlen]) k1
      | cons r rs =>
        cases rs with
        | nil =>
          simp only [RVs] at k2
          obtain ⟨v, rr, rfl, hv1, rfl⟩ := k2
          exact ⟨v, r, ρ', H', by simp, k1, h3, hv1, h6⟩
        | cons r2 rs => exact many (by simp at hlen; omega) k1
    cases e with
    | normal =>
      cases e' with
      | normal => exact fin h2
      | exit i => exact h1.elim
      | ret => exact h1.elim
    | ret =>
      cases e' with
      | ret => exact fin h2
      | normal => exact h1.elim
      | exit j => exact h1.elim
    | exit i =>
      cases e' with
      | exit j => exact h2.elim
      | normal => exact h1.elim
      | ret => exact h1.elim
    | goto l => cases e' <;> exact h1.elim
    | panic l => cases e' <;> exact h1.elim
    | outgrown => cases e' <;> exact h1.elim
end
end Go.DL
