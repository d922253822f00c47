/- A region by a plan: the simulation. -/
import Derived.Test.YtidjlmjibfbmjaaGreatDoorDl17
namespace Go.DL
open Go.RowKit

section
variable {P : Program} {wb : World} {Θ : List (Nat × TI)} {G : Nat → Prop} {all : List Oper} {env0 : List A} {ρ0 : List Loc} {H0 : List Ob} {w0 : World}
theorem put_rvs {ρ : List Loc} {H : List Ob} {g : Nat → Prop} {w : World} {a : Act} {env : List A} (hE : RVs ρ H g w env a.tmps.toList) {dst : Option Nat} {x : A} {v : Value} (hx : RV ρ H g w x v) :
    RVs ρ H g w (setDst env dst x) (a.put dst v).tmps.toList := by
  cases dst with
  | none => exact hE
  | some d => simpa [Act.put, setDst] using hE.set d hx
theorem op_out2 (hΘ : ΘOk P Θ) {ρ : List Loc} {H : List Ob} {w : World} {a : Act} {env : List A} (hS : SimH G wb ρ H w) (hd : a.defers = []) (hE : RVs ρ H (gd G ρ H) w env a.tmps.toList) {o : Oper}
    {C : A → List Ob → Prop} (h : opD P wb Θ o.op env H C) {next : Act → World → Prop} {Q : Exit → Act → World → Prop}
    (hn : ∀ v ρ' H' a' w', C v H' → SimH G wb ρ' H' w' → a'.defers = [] → RVs ρ' H' (gd G ρ' H') w' (setDst env o.dst v) a'.tmps.toList → Step ρ H w ρ' H' w' → next a' w') : o.wp P a w next Q := by
  have fin : ∀ v w', OpRes G wb ρ H w C v w' → next (a.put o.dst v) w' := by
    rintro v w' ⟨x, ρ', H', h1, h2, h3, h4⟩
    exact hn x ρ' H' _ w' h1 h2 (by rw [put_defers, hd]) (put_rvs (h4.rvs hS.len hE) h3) h4
  have ho := opD_out hΘ hS hE h
  unfold Oper.wp
  revert ho
  generalize (execOp a.eval o).run P w = r
  intro ho
  cases ho with
  | val v w' h => rw [Oper.upon_value]; exact fin v w' h
  | skip w' h => rw [Oper.upon_skip]; exact fin _ w' h
  | call f args h =>
    rw [Oper.upon_enter]
    exact h.mono fun e w' ⟨v, he, h⟩ => by subst he; exact fin v w' h
theorem exec (hΘ : ΘOk P Θ) {ρ : List Loc} {H : List Ob} {w : World} {a : Act} {envA env : List A} (hS : SimH G wb ρ H w) (hd : a.defers = []) (hE : RVs ρ H (gd G ρ H) w envA a.tmps.toList)
    {j : Nat} {o : Oper} (ho : all[j]? = some o) (hag : ∀ t ∈ looks all o, env[t]? = envA[t]?) {C : A → List Ob → Prop} {NEXT : Act → World → Prop} {Q : Exit → Act → World → Prop}
    (hop : (wantE all o env = some true ∧ opD P wb Θ o.op env H C) ∨ (wantE all o env = some false ∧ C (.tup []) H))
    (next : ∀ v ρ' H' a' w', C v H' → SimH G wb ρ' H' w' → a'.defers = [] → RVs ρ' H' (gd G ρ' H') w' (setDst envA o.dst v) a'.tmps.toList → Step ρ H w ρ' H' w' → NEXT a' w') :
    wpOp P all.toArray Q j NEXT a w := by
  unfold wpOp
  have ho' : all.toArray[j]? = some o := by simpa using ho
  rw [ho']
  simp only
  rcases hop with ⟨h1, h2⟩ | ⟨h1, h2⟩
  · rw [wantE_agree hag] at h1
    rw [wanted_of hE h1, if_pos rfl]
    rw [opD_local (evK_agree hag)] at h2
    exact .inl (op_out2 hΘ hS hd hE h2 next)
  · rw [wantE_agree hag] at h1
    rw [wanted_of hE h1, if_neg (by simp)]
    refine next (.tup []) ρ H _ w h2 hS (by rw [put_defers, hd]) ?_ (.refl _ _ _)
    exact put_rvs hE (by simp [RV, RVs, undef])

theorem listed_set {listed : Array Bool} {La : List Nat} {j : Nat} (hs : listed.size = all.length) (hm : ∀ i, i < all.length → (listed.getD i false = true ↔ i ∈ La)) (hj : j < all.length) :
    (listed.setIfInBounds j true).size = all.length ∧ ∀ i, i < all.length → ((listed.setIfInBounds j true).getD i false = true ↔ i ∈ j :: La) := by
  refine ⟨by simp [hs], fun i hi => ?_⟩
  by_cases e : j = i
  · subst e
    simp [hs, hj]
  · rw [getD_set_ne false e, hm i hi, List.mem_cons]
    exact ⟨.inr, fun h => h.resolve_left (fun h => e h.symm)⟩

theorem needs_out {La : List Nat} (hc : Clos all La) : ∀ (n : Nat) (o : Oper), (∀ i ∈ deps o, i ∈ La) → ∀ {k : Nat}, needs all n o k = true → k ∈ La
  | 0, _, _, _, h => by simp [needs] at h
  | n + 1, o, hd, k, h => by
    simp only [needs, Bool.or_eq_true, List.any_eq_true] at h
    rcases h with h | ⟨i, hi, h⟩
    · exact hd k (List.contains_iff_mem.1 h)
    · cases ho : all[i]? with
      | none => rw [ho] at h; cases h
      | some oi =>
        rw [ho] at h
        exact needs_out hc n oi (fun q hq => hc i (hd i hi) oi ho q hq) h
theorem sim_region (hΘ : ΘOk P Θ) (hc : conflB all = true) (hb : backB all = true) {Q : Ex → List A → List Ob → Prop} :
    ∀ (fuel : Nat) (La Ld : List Nat) (x : Nat → A) (envA envD : List A) (ρ : List Loc) (H : List Ob) (a : Act) (w : World) (listed : Array Bool) (plan : Plan),
      St P wb Θ G all env0 ρ0 H0 w0 La Ld x envA envD ρ H a w listed → left all La = fuel → planB all plan Ld [] = true → runPlan P wb Θ all (fun e h => Q .normal e h) plan envD H →
      wpAny P .any all.toArray (Post G wb ρ0 H0 w0 Q) fuel listed a w := by
  intro fuel
  induction fuel with
  | zero =>
    intro La Ld x envA envD ρ H a w listed plan st hl hp hr
    have hA := left_zero hl
    have hDall : ∀ i, i < all.length → i ∈ Ld := fun i hi => st.sub i (hA i hi)
    have out : ∀ i, all[i]? ≠ none → i ∈ Ld := fun i hi => hDall i (by
      rcases Nat.lt_or_ge i all.length with h | h
      · exact h
      · exact absurd (List.getElem?_eq_none h) hi)
    have hready : Region.ready .any all.toArray listed = [] := by
      apply List.eq_nil_iff_forall_not_mem.2
      intro i hi
      obtain ⟨h1, o, h2, _⟩ := mem_ready.1 hi
      have hlt : i < all.length := by
        have := (Array.getElem?_eq_some_iff.1 h2).1
        simpa using this
      have := (st.lmem i hlt).2 (hA i hlt)
      have hlt' : i < listed.size := by rw [st.lsize]; exact hlt
      rw [Array.getD_eq_getD_getElem?, Array.getElem?_eq_getElem hlt'] at this h1
      simp at this h1
      rw [this] at h1
      cases h1
    have hQ : Q .normal envD H := by
      cases plan with
      | done => exact hr
      | take i p =>
        simp only [planB, Bool.and_eq_true] at hp
        cases ho : all[i]? with
        | none => rw [ho] at hp; exact absurd hp.2 (by simp)
        | some o =>
          have := out i (by rw [ho]; simp)
          have hc' : Ld.contains i = true := List.contains_iff_mem.2 this
          rw [hc'] at hp
          exact absurd hp.1.2 (by simp)
      | alt i full p rest =>
        simp only [planB, Bool.and_eq_true] at hp
        cases ho : all[i]? with
        | none => rw [ho] at hp; exact absurd hp.2 (by simp)
        | some o =>
          have := out i (by rw [ho]; simp)
          have hc' : Ld.contains i = true := List.contains_iff_mem.2 this
          rw [hc'] at hp
          exact absurd hp.1 (by simp)
      | stop => simp [planB] at hp
    refine ⟨hready, .normal, ρ, envD, H, trivial, hQ, st.hS, st.hd, ?_, st.step⟩
    have e : envA = envD := by
      apply List.ext_getElem?
      intro t
      by_cases hex : ∃ (r : Nat) (q : Oper), all[r]? = some q ∧ q.dst = some t
      · obtain ⟨r, q, hr1, hr2⟩ := hex
        have hrl : r < all.length := (List.getElem?_eq_some_iff.1 hr1).1
        by_cases hlt : t < env0.length
        · rw [st.eA.set r q t hr1 hr2 (hA r hrl) hlt, st.eD.set r q t hr1 hr2 (hDall r hrl) hlt]
        · rw [List.getElem?_eq_none (by rw [st.eA.len]; omega), List.getElem?_eq_none (by rw [st.eD.len]; omega)]
      · rw [st.eA.old t (fun r o h1 _ h3 => hex ⟨r, o, h1, h3⟩), st.eD.old t (fun r o h1 _ h3 => hex ⟨r, o, h1, h3⟩)]
    rw [← e]
    exact st.hE
  | succ fuel ih =>
    intro La Ld x envA envD ρ H a w listed plan st hl hp hr
    refine ⟨fun hnil => ?_, fun j hj => ?_⟩
    · exfalso
      obtain ⟨i, hi, hn, hall⟩ := left_pos (all := all) (L := La) (by omega)
      have : i ∈ Region.ready .any all.toArray listed := by
        refine mem_ready.2 ⟨?_, all[i], by simp [hi], ?_⟩
        · have h0 : listed.getD i false ≠ true := fun h => hn ((st.lmem i hi).1 h)
          have hlt' : i < listed.size := by rw [st.lsize]; exact hi
          rw [Array.getD_eq_getD_getElem?, Array.getElem?_eq_getElem hlt'] at h0 ⊢
          simpa using h0
        · intro e he hbd
          have hd : e.on ∈ deps all[i] := List.mem_map.2 ⟨e, List.mem_filter.2 ⟨by simpa using he, hbd⟩, rfl⟩
          have hlt : e.on < i := by
            unfold backB at hb
            rw [List.all_eq_true] at hb
            have := hb i (List.mem_range.2 hi)
            rw [List.getElem?_eq_getElem hi] at this
            simp only [List.all_eq_true] at this
            have := this e.on hd
            simpa using this
          exact (st.lmem e.on (by omega)).2 (hall _ hlt)
      rw [hnil] at this
      cases this
    · obtain ⟨hj1, o, hj2, hj3⟩ := mem_ready.1 hj
      have ho : all[j]? = some o := by simpa using hj2
      have hjl : j < all.length := (List.getElem?_eq_some_iff.1 ho).1
      have hjA : j ∉ La := by
        intro hm
        have h0 := (st.lmem j hjl).2 hm
        have hlt' : j < listed.size := by rw [st.lsize]; exact hjl
        rw [Array.getD_eq_getD_getElem?, Array.getElem?_eq_getElem hlt'] at h0 hj1
        simp at h0 hj1
        rw [h0] at hj1
        cases hj1
      have hdA : ∀ i ∈ deps o, i ∈ La := by
        intro i hi
        obtain ⟨e, he, rfl⟩ := List.mem_map.1 hi
        rw [List.mem_filter] at he
        have := hj3 e (by simpa using he.1) he.2
        have hlt : e.on < all.length := by
          rcases Nat.lt_or_ge e.on listed.size with h | h
          · rw [← st.lsize]; exact h
          · rw [Array.getD_eq_getD_getElem?, Array.getElem?_eq_none h] at this
            simp at this
        exact (st.lmem _ hlt).1 this
      have hleft : left all (j :: La) = fuel := by
        have := left_cons (all := all) hjl hjA
        omega
      obtain ⟨ls1, ls2⟩ := listed_set st.lsize st.lmem hjl
      have clA' : Clos all (j :: La) := by
        intro r hr' o' ho' i hi
        rcases List.mem_cons.1 hr' with rfl | hr'
        · rw [ho] at ho'
          cases ho'
          exact List.mem_cons_of_mem _ (hdA i hi)
        · exact List.mem_cons_of_mem _ (st.clA r hr' o' ho' i hi)
      -- the pending ones
      have pending : ∀ (Ld : List Nat) (x : Nat → A) (envD : List A) (plan : Plan), St P wb Θ G all env0 ρ0 H0 w0 La Ld x envA envD ρ H a w listed → planB all plan Ld [] = true →
          runPlan P wb Θ all (fun e h => Q .normal e h) plan envD H → j ∈ Ld →
          wpOp P all.toArray (Post G wb ρ0 H0 w0 Q) j (wpAny P .any all.toArray (Post G wb ρ0 H0 w0 Q) fuel (listed.setIfInBounds j true)) a w := by
        intro Ld x envD plan st hp hr hjD
        obtain ⟨o', Lp, envp, k1, k2, k3, k4, k5, k6, k7, k8⟩ := st.pend j hjD hjA
        rw [ho] at k1
        cases k1
        refine exec hΘ st.hS st.hd st.hE ho (fun t ht => k3.agree hc st.eA k5 st.clA ho k4 hjA k6 hdA ht) (C := fun v H' => v = x j ∧ H' = H) ?_ ?_
        · rcases k8 with ⟨m1, m2, _⟩ | ⟨m1, m2⟩
          · have := m2 [] (fun v H' => v = x j ∧ H' = H) ⟨rfl, by simp⟩
            rw [List.append_nil] at this
            exact .inl ⟨m1, this⟩
          · exact .inr ⟨m1, m2.symm, rfl⟩
        · rintro v ρ' H' a' w' ⟨rfl, rfl⟩ q1 q2 q3 q4
          refine ih (j :: La) Ld x (setDst envA o.dst (x j)) envD ρ' H' a' w' (listed.setIfInBounds j true) plan ?_ hleft hp hr
          refine ⟨q1, q2, q3, ?_, st.eD, ?_, clA', st.clD, ?_, st.step.trans q4, ls1, ls2, st.inA⟩
          · have := st.eA.step hc ho hjA (x j)
            refine this.congr ?_
            intro r _
            simp only [upd]
            split
            · rename_i e; rw [e]
            · rfl
          · intro i hi
            rcases List.mem_cons.1 hi with rfl | hi
            · exact hjD
            · exact st.sub i hi
          · intro p hpD hpA
            exact st.pend p hpD (fun h => hpA (List.mem_cons_of_mem _ h))
      -- along the plan
      have along : ∀ (plan : Plan) (seen : List Nat) (Ld : List Nat) (x : Nat → A) (envD : List A), St P wb Θ G all env0 ρ0 H0 w0 La Ld x envA envD ρ H a w listed → planB all plan Ld seen = true →
          runPlan P wb Θ all (fun e h => Q .normal e h) plan envD H → j ∉ Ld → j ∉ seen →
          wpOp P all.toArray (Post G wb ρ0 H0 w0 Q) j (wpAny P .any all.toArray (Post G wb ρ0 H0 w0 Q) fuel (listed.setIfInBounds j true)) a w := by
        intro plan
        induction plan with
        | done =>
          intro seen Ld x envD st hp hr hjD hjs
          exfalso
          simp only [planB, Bool.and_eq_true, List.all_eq_true] at hp
          have := hp.2 j (List.mem_range.2 hjl)
          exact hjD (by simpa using this)
        | stop =>
          intro seen Ld x envD st hp hr hjD hjs
          exfalso
          simp only [planB, Bool.and_eq_true, List.all_eq_true] at hp
          have := hp.2 j (List.mem_range.2 hjl)
          rw [ho] at this
          simp only [Bool.or_eq_true, Bool.not_eq_true', List.contains_iff_mem] at this
          rcases this with (h | h) | h
          · exact hjD h
          · exact hjs h
          · rw [List.all_eq_false] at h
            obtain ⟨i, hi, hn⟩ := h
            exact hn (by simpa using st.sub i (hdA i hi))
        | take i p ihp =>
          intro seen Ld x envD st hp hr hjD hjs
          simp only [planB, Bool.and_eq_true, Bool.not_eq_true'] at hp
          obtain ⟨⟨hp1, hp2⟩, hp3⟩ := hp
          have hiD : i ∉ Ld := fun h => by
            have : Ld.contains i = true := List.contains_iff_mem.2 h
            rw [this] at hp2
            cases hp2
          obtain ⟨oi, hoi, hr⟩ := opAt_out hr
          rw [hoi] at hp3
          simp only [Bool.and_eq_true, List.all_eq_true] at hp3
          obtain ⟨⟨hp4, hp5⟩, hp6⟩ := hp3
          have hil : i < all.length := (List.getElem?_eq_some_iff.1 hoi).1
          have hdi : ∀ k ∈ deps oi, k ∈ Ld := fun k hk => by simpa using hp5 k hk
          have hy : ∃ v, Yield P wb Θ all oi v envD H ∧ runPlan P wb Θ all (fun e h => Q .normal e h) p (setDst envD oi.dst v) H := by
            rcases opG_out hr with ⟨m1, m2⟩ | ⟨m1, m2⟩
            · obtain ⟨v, n1, n2⟩ := still_ext2 hp4 m2
              exact ⟨v, .inl ⟨m1, n2⟩, n1⟩
            · exact ⟨.tup [], .inr ⟨m1, rfl⟩, m2⟩
          obtain ⟨v, hy1, hy2⟩ := hy
          have st' : St P wb Θ G all env0 ρ0 H0 w0 La (i :: Ld) (upd x i v) envA (setDst envD oi.dst v) ρ H a w listed := by
            refine ⟨st.hS, st.hd, st.hE, st.eA.congr (upd_ne (fun h => hiD (st.sub i h))), st.eD.step hc hoi hiD v, fun k hk => List.mem_cons_of_mem _ (st.sub k hk), st.clA, ?_, ?_, st.step, st.lsize, st.lmem, ?_⟩
            · intro r hr' o' ho' k hk
              rcases List.mem_cons.1 hr' with rfl | hr'
              · rw [hoi] at ho'
                cases ho'
                exact List.mem_cons_of_mem _ (hdi k hk)
              · exact List.mem_cons_of_mem _ (st.clD r hr' o' ho' k hk)
            · intro q hq hqA
              rcases List.mem_cons.1 hq with rfl | hq
              · exact ⟨oi, Ld, envD, hoi, hp4, st.eD.congr (upd_ne hiD), hiD, st.clD, hdi, fun k hk => List.mem_cons_of_mem _ hk, by simpa [upd] using hy1⟩
              · obtain ⟨oq, Lp, envp, k1, k2, k3, k4, k5, k6, k7, k8⟩ := st.pend q hq hqA
                have hne : q ≠ i := fun e => hiD (e ▸ hq)
                exact ⟨oq, Lp, envp, k1, k2, k3.congr (upd_ne (fun h => hiD (k7 i h))), k4, k5, k6, fun k hk => List.mem_cons_of_mem _ (k7 k hk), by simpa [upd, hne] using k8⟩
            · intro k hk
              rcases List.mem_cons.1 hk with rfl | hk
              · exact hil
              · exact st.inA k hk
          by_cases e : j = i
          · exact pending (i :: Ld) _ _ p st' hp6 hy2 (by rw [e]; exact List.mem_cons_self)
          · exact ihp [] (i :: Ld) _ _ st' hp6 hy2 (fun h => by
              rcases List.mem_cons.1 h with h | h
              · exact e h
              · exact hjD h) (by simp)
        | alt i full p rest ihp ihr =>
          intro seen Ld x envD st hp hr hjD hjs
          simp only [planB, Bool.and_eq_true, Bool.not_eq_true'] at hp
          obtain ⟨hp2, hp3⟩ := hp
          obtain ⟨hr1, hr2⟩ := hr
          obtain ⟨oi, hoi, hr1⟩ := opAt_out hr1
          rw [hoi] at hp3
          simp only [Bool.and_eq_true, List.all_eq_true, Bool.or_eq_true, Bool.not_eq_true'] at hp3
          obtain ⟨⟨⟨hp4, hp5⟩, hp6⟩, hp7⟩ := hp3
          by_cases e : j = i
          · subst e
            rw [ho] at hoi
            cases hoi
            have hdi : ∀ k ∈ deps o, k ∈ Ld := fun k hk => by simpa using hp4 k hk
            have hC : (wantE all o envD = some true ∧ opD P wb Θ o.op envD H fun v H' => (full = false → ∃ E, H' = H ++ E) ∧ runPlan P wb Θ all (fun e h => Q .normal e h) p (setDst envD o.dst v) H') ∨
                (wantE all o envD = some false ∧ (full = false → ∃ E, H = H ++ E) ∧ runPlan P wb Θ all (fun e h => Q .normal e h) p (setDst envD o.dst (.tup [])) H) := by
              have hh := opG_out hr1
              cases full with
              | true =>
                rcases hh with ⟨m1, m2⟩ | ⟨m1, m2⟩
                · refine .inl ⟨m1, ?_⟩
                  have e : (fun v H' => (true = false → ∃ E, H' = H ++ E) ∧ runPlan P wb Θ all (fun e h => Q .normal e h) p (setDst envD o.dst v) H') = fun v H' => runPlan P wb Θ all (fun e h => Q .normal e h) p (setDst envD o.dst v) H' := by
                    funext v H'
                    simp
                  rw [e]
                  exact m2
                · exact .inr ⟨m1, by simp, m2⟩
              | false =>
                rcases hh with ⟨m1, m2⟩ | ⟨m1, m2⟩
                · refine .inl ⟨m1, ?_⟩
                  have e : (fun v H' => (false = false → ∃ E, H' = H ++ E) ∧ runPlan P wb Θ all (fun e h => Q .normal e h) p (setDst envD o.dst v) H') = fun v H' => (∃ E, H' = H ++ E) ∧ runPlan P wb Θ all (fun e h => Q .normal e h) p (setDst envD o.dst v) H' := by
                    funext v H'
                    simp
                  rw [e]
                  exact m2
                · exact .inr ⟨m1, fun _ => m2.1, m2.2⟩
            refine exec hΘ st.hS st.hd st.hE ho (fun t ht => st.eD.agree hc st.eA st.clD st.clA ho hjD hjA hdi hdA ht)
              (C := fun v H' => (full = false → ∃ E, H' = H ++ E) ∧ runPlan P wb Θ all (fun e h => Q .normal e h) p (setDst envD o.dst v) H') hC ?_
            rintro v ρ' H' a' w' ⟨hE', hR⟩ q1 q2 q3 q4
            refine ih (j :: La) (j :: Ld) (upd x j v) (setDst envA o.dst v) (setDst envD o.dst v) ρ' H' a' w' (listed.setIfInBounds j true) p ?_ hleft hp6 hR
            refine ⟨q1, q2, q3, st.eA.step hc ho hjA v, st.eD.step hc ho hjD v, ?_, clA', ?_, ?_, st.step.trans q4, ls1, ls2, ?_⟩
            · intro k hk
              rcases List.mem_cons.1 hk with rfl | hk
              · exact List.mem_cons_self
              · exact List.mem_cons_of_mem _ (st.sub k hk)
            · intro r hr' o' ho' k hk
              rcases List.mem_cons.1 hr' with rfl | hr'
              · rw [ho] at ho'
                cases ho'
                exact List.mem_cons_of_mem _ (hdi k hk)
              · exact List.mem_cons_of_mem _ (st.clD r hr' o' ho' k hk)
            · intro q hq hqA
              have hqj : q ≠ j := fun e => hqA (by rw [e]; exact List.mem_cons_self)
              have hq' : q ∈ Ld := (List.mem_cons.1 hq).resolve_left hqj
              have hqA' : q ∉ La := fun h => hqA (List.mem_cons_of_mem _ h)
              obtain ⟨oq, Lp, envp, k1, k2, k3, k4, k5, k6, k7, k8⟩ := st.pend q hq' hqA'
              have hy : Yield P wb Θ all oq (x q) envp H' := by
                cases full with
                | false =>
                  obtain ⟨E, rfl⟩ := hE' rfl
                  exact k8.ext E
                | true =>
                  have := hp5.resolve_left (by simp) q hq'
                  rw [k1] at this
                  simp only [Bool.or_eq_true, Bool.not_eq_true'] at this
                  rcases this with ((h | h) | h) | h
                  · rw [k2] at h; cases h
                  · exact k8.pure h H'
                  · exact absurd (needs_out st.clA _ o hdA h) hqA'
                  · exact absurd (needs_out st.clA _ o hdA h) hqA'
              exact ⟨oq, Lp, envp, k1, k2, k3.congr (upd_ne (fun h => hjD (k7 j h))), k4, k5, k6, fun k hk => List.mem_cons_of_mem _ (k7 k hk), by simpa [upd, hqj] using hy⟩
            · intro k hk
              rcases List.mem_cons.1 hk with rfl | hk
              · exact hjl
              · exact st.inA k hk
          · exact ihr (i :: seen) Ld x envD st hp7 hr2 hjD (fun h => by
              rcases List.mem_cons.1 h with h | h
              · exact e h
              · exact hjs h)
      by_cases hjD : j ∈ Ld
      · exact pending Ld x envD plan st hp hr hjD
      · exact along plan [] Ld x envD st hp hr hjD (by simp)

theorem region_plan (hΘ : ΘOk P Θ) (hm : P.follows .mixedOrders = true) {n : Nat} {ops : Array Oper} {env : List A} {H : List Ob} {Q : Ex → List A → List Ob → Prop} (plan : Plan) (hs : statB ops.toList plan = true)
    (h : runPlan P wb Θ ops.toList (fun e h => Q .normal e h) plan env H) : TriS P wb (.region n ops true) env H Q := by
  refine ⟨fun G ρ a w hS hd hE => wp_region_any hm ?_⟩
  simp only [statB, Bool.and_eq_true] at hs
  have q5 : ∀ b, b < w.heap.size → ({ w with drawn := w.drawn + 1 } : World).heap[b]? = w.heap[b]? := fun _ _ => rfl
  have hS' := sim_still (w' := { w with drawn := w.drawn + 1 }) hS rfl rfl rfl (Nat.le_refl _) q5
  have hs' := step_still (ρ := ρ) (H := H) (w := w) (w' := { w with drawn := w.drawn + 1 }) rfl rfl rfl (Nat.le_refl _) q5
  have e0 : ∀ x, IsEnv ops.toList env [] x env := fun x => ⟨rfl, by intro r o d _ _ h; simp at h, fun t _ => rfl⟩
  have lm : ∀ i, i < ops.toList.length → ((Array.replicate ops.size false).getD i false = true ↔ i ∈ ([] : List Nat)) := by
    intro i hi
    have : i < ops.size := by simpa using hi
    simp [this]
  have cl : Clos ops.toList [] := by intro r hr; simp at hr
  have hl : left ops.toList [] = ops.size := by
    unfold left
    have e : (List.range ops.toList.length).filter (fun i => !([] : List Nat).contains i) = List.range ops.toList.length := List.filter_eq_self.2 (by simp)
    rw [e]
    simp
  have := sim_region (G := G) (env0 := env) (ρ0 := ρ) (H0 := H) (w0 := w) hΘ hs.1.1 hs.1.2 (Q := Q) ops.size [] [] (fun _ => .undef) env env ρ H a { w with drawn := w.drawn + 1 } (Array.replicate ops.size false) plan
    ⟨hS', hd, hs'.rvs hS.len hE, e0 _, e0 _, by simp, cl, cl, by intro p hp; simp at hp, hs', by simp, lm, by intro i hi; simp at hi⟩ hl hs.2 h
  change wpAny P .any ops (Post G wb ρ H w Q) _ _ _ _
  simpa using this
end
end Go.DL
