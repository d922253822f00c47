/- An evaluator with truth values: regions, bodies, functions; soundness. -/
import Derived.Test.YtidjlmjibfbmjaaGreatDoorXa35
import Derived.Test.YtidjlmjibfbmjaaGreatDoorDl22
namespace Go.DL
namespace X
open Go.RowKit

mutual
noncomputable def eqD : D → D → Bool
  | .b x, .b y => beqB x y
  | .i k n, .i j m => (decide (k = j)).and (eqI n m)
  | .s x, .s y => eqBL x.data.toList y.data.toList
  | .sl a, .sl b => eqDss a b
  | _, _ => false
noncomputable def eqDss : List (List D) → List (List D) → Bool
  | [], [] => true
  | x :: xs, y :: ys => (eqDs x y).and (eqDss xs ys)
  | _, _ => false
noncomputable def eqDs : List D → List D → Bool
  | [], [] => true
  | x :: xs, y :: ys => (eqD x y).and (eqDs xs ys)
  | _, _ => false
end
mutual
theorem eqD_out : ∀ {x y : D}, eqD x y = true → x = y
  | .b x, .b y, h => by simp only [eqD, beqB_eq] at h; simpa using h
  | .i k n, .i j m, h => by
    simp only [eqD, Bool.and_eq_true, decide_eq_true_iff] at h
    rw [h.1, eqI_out h.2]
  | .s x, .s y, h => by
    simp only [eqD, eqBL_eq] at h
    have : x = y := by
      apply ByteArray.ext
      apply Array.toList_inj.1
      exact eq_of_beq h
    rw [this]
  | .sl a, .sl b, h => by
    simp only [eqD] at h
    rw [eqDss_out h]
  | .b _, .i .., h | .b _, .s _, h | .b _, .sl _, h | .i .., .b _, h | .i .., .s _, h | .i .., .sl _, h | .s _, .b _, h | .s _, .i .., h | .s _, .sl _, h | .sl _, .b _, h | .sl _, .i .., h | .sl _, .s _, h => by simp [eqD] at h
theorem eqDss_out : ∀ {x y : List (List D)}, eqDss x y = true → x = y
  | [], [], _ => rfl
  | x :: xs, y :: ys, h => by
    simp only [eqDss, Bool.and_eq_true] at h
    rw [eqDs_out h.1, eqDss_out h.2]
  | [], _ :: _, h | _ :: _, [], h => by simp [eqDss] at h
theorem eqDs_out : ∀ {x y : List D}, eqDs x y = true → x = y
  | [], [], _ => rfl
  | x :: xs, y :: ys, h => by
    simp only [eqDs, Bool.and_eq_true] at h
    rw [eqD_out h.1, eqDs_out h.2]
  | [], _ :: _, h | _ :: _, [], h => by simp [eqDs] at h
end
mutual
noncomputable def eqA : A → A → Bool
  | .undef, .undef => true
  | .d x, .d y => eqD x y
  | .agg x, .agg y => eqAs x y
  | .tup x, .tup y => eqAs x y
  | .ptr o q, .ptr o' q' => (Nat.beq o o').and (Nat.beq q q')
  | .fp x, .fp y => eqDs x y
  | .vp o g i q, .vp o' g' i' q' => (Nat.beq o o').and ((Nat.beq g g').and ((Nat.beq i i').and (Nat.beq q q')))
  | .vs o g q, .vs o' g' q' => (Nat.beq o o').and ((Nat.beq g g').and (Nat.beq q q'))
  | .es, .es => true
  | .fn f x y, .fn f' x' y' => (Nat.beq f f').and ((eqAs x x').and (eqAs y y'))
  | .nilp, .nilp => true
  | .nilf, .nilf => true
  | .mp o, .mp o' => Nat.beq o o'
  | .nilm, .nilm => true
  | _, _ => false
noncomputable def eqAs : List A → List A → Bool
  | [], [] => true
  | x :: xs, y :: ys => (eqA x y).and (eqAs xs ys)
  | _, _ => false
end
mutual
theorem eqA_out : ∀ (x y : A), eqA x y = true → x = y
  | .undef, y, h => by cases y <;> simp_all [eqA]
  | .d x, y, h => by
    cases y <;> simp only [eqA, Bool.false_eq_true] at h
    rw [eqD_out h]
  | .agg x, y, h => by
    cases y <;> simp only [eqA, Bool.false_eq_true] at h
    rw [eqAs_out _ _ h]
  | .tup x, y, h => by
    cases y <;> simp only [eqA, Bool.false_eq_true] at h
    rw [eqAs_out _ _ h]
  | .ptr o q, y, h => by cases y <;> simp_all [eqA]
  | .fp x, y, h => by
    cases y <;> simp only [eqA, Bool.false_eq_true] at h
    rw [eqDs_out h]
  | .vp o g i q, y, h => by cases y <;> simp_all [eqA]
  | .vs o g q, y, h => by cases y <;> simp_all [eqA]
  | .es, y, h => by cases y <;> simp_all [eqA]
  | .fn f x z, y, h => by
    cases y <;> simp only [eqA, Bool.false_eq_true, Bool.and_eq_true, Nat.beq_eq] at h
    rw [h.1, eqAs_out _ _ h.2.1, eqAs_out _ _ h.2.2]
  | .nilp, y, h => by cases y <;> simp_all [eqA]
  | .nilf, y, h => by cases y <;> simp_all [eqA]
  | .mp o, y, h => by cases y <;> simp_all [eqA]
  | .nilm, y, h => by cases y <;> simp_all [eqA]
theorem eqAs_out : ∀ (x y : List A), eqAs x y = true → x = y
  | [], [], _ => rfl
  | x :: xs, y :: ys, h => by
    simp only [eqAs, Bool.and_eq_true] at h
    rw [eqA_out _ _ h.1, eqAs_out _ _ h.2]
  | [], _ :: _, h | _ :: _, [], h => by simp [eqAs] at h
end
noncomputable def eqAss : List (List A) → List (List A) → Bool
  | [], [] => true
  | x :: xs, y :: ys => (eqAs x y).and (eqAss xs ys)
  | _, _ => false
theorem eqAss_out : ∀ (x y : List (List A)), eqAss x y = true → x = y
  | [], [], _ => rfl
  | x :: xs, y :: ys, h => by
    simp only [eqAss, Bool.and_eq_true] at h
    rw [eqAs_out _ _ h.1, eqAss_out _ _ h.2]
  | [], _ :: _, h | _ :: _, [], h => by simp [eqAss] at h
noncomputable def eqEs : List (Int × A) → List (Int × A) → Bool
  | [], [] => true
  | x :: xs, y :: ys => (eqI x.1 y.1).and ((eqA x.2 y.2).and (eqEs xs ys))
  | _, _ => false
theorem eqEs_out : ∀ (x y : List (Int × A)), eqEs x y = true → x = y
  | [], [], _ => rfl
  | x :: xs, y :: ys, h => by
    simp only [eqEs, Bool.and_eq_true] at h
    rw [eqEs_out _ _ h.2.2]
    congr 1
    exact Prod.ext (eqI_out h.1) (eqA_out _ _ h.2.1)
  | [], _ :: _, h | _ :: _, [], h => by simp [eqEs] at h
noncomputable def eqOb : Ob → Ob → Bool
  | .box x, .box y => eqAs x y
  | .vec g es x, .vec g' es' y => (Nat.beq g g').and ((Nat.beq es es').and (eqAss x y))
  | .map k x, .map k' y => (decide (k = k')).and (eqEs x y)
  | .gone, .gone => true
  | _, _ => false
theorem eqOb_out (x y : Ob) (h : eqOb x y = true) : x = y := by
  cases x <;> cases y <;> simp only [eqOb, Bool.false_eq_true, Bool.and_eq_true, Nat.beq_eq, decide_eq_true_iff] at h
  · rw [eqAs_out _ _ h]
  · rw [h.1, h.2.1, eqAss_out _ _ h.2.2]
  · rw [h.1, eqEs_out _ _ h.2]
  · rfl
noncomputable def prefX : List Ob → List Ob → Bool
  | [], _ => true
  | x :: xs, y :: ys => (eqOb x y).and (prefX xs ys)
  | _ :: _, [] => false
theorem prefX_out : ∀ {H H' : List Ob}, prefX H H' = true → ∃ E, H' = H ++ E
  | [], H', _ => ⟨H', rfl⟩
  | x :: xs, y :: ys, h => by
    simp only [prefX, Bool.and_eq_true] at h
    obtain ⟨E, rfl⟩ := prefX_out h.2
    rw [eqOb_out _ _ h.1]
    exact ⟨E, rfl⟩
  | _ :: _, [], h => by simp [prefX] at h

noncomputable def dstX (all : List Oper) (j : Nat) (κ : Nat → Bool) : Bool :=
  match all, j with
  | [], _ => false
  | o :: _, 0 => match o.dst with
    | some d => κ d
    | none => false
  | _ :: r, n + 1 => dstX r n κ
theorem dstX_out {κ : Nat → Bool} {K : Nat → Prop} (h : ∀ x, κ x = true → K x) : ∀ {all : List Oper} {j : Nat}, dstX all j κ = true → dstK all j K
  | [], _, e => by simp [dstX] at e
  | o :: _, 0, e => by
    simp only [dstX] at e
    simp only [dstK]
    cases hd : o.dst with
    | none => rw [hd] at e; cases e
    | some d => rw [hd] at e; exact h _ e
  | _ :: r, n + 1, e => by
    simp only [dstX] at e
    simp only [dstK]
    exact dstX_out h e
noncomputable def putX (env : List A) (dst : Option Nat) (v : A) (κ : List A → Bool) : Bool :=
  match dst with
  | some d => setX env d v κ
  | none => κ env
theorem putX_out {κ : List A → Bool} {K : List A → Prop} (h : ∀ x, κ x = true → K x) {env : List A} {dst : Option Nat} {v : A} (e : putX env dst v κ = true) : putK env dst v K := by
  rw [putK_eq]
  apply h
  cases dst with
  | none => exact e
  | some d =>
    simp only [putX, setX_eq] at e
    exact e
/-- one operation with its guard -/
noncomputable def opGX (call : CX) (Θ : List (Nat × TI)) (all : List Oper) (o : Oper) (env : List A) (H : List Ob) (κ : List A → List Ob → Bool) : Bool :=
  match o.guard with
  | none => opX call Θ o.op env H fun v H' => putX env o.dst v fun env' => κ env' H'
  | some (j, want) => dstX all j fun d => getX env d fun gv => match gv with
    | .d (.b t) => match t with
      | true => match want with
        | true => opX call Θ o.op env H fun v H' => putX env o.dst v fun env' => κ env' H'
        | false => putX env o.dst (.tup []) fun env' => κ env' H
      | false => match want with
        | false => opX call Θ o.op env H fun v H' => putX env o.dst v fun env' => κ env' H'
        | true => putX env o.dst (.tup []) fun env' => κ env' H
    | .tup _ => putX env o.dst (.tup []) fun env' => κ env' H
    | _ => false

section
variable {P : Program} {wb : World} {call : CX} {Θ : List (Nat × TI)}
noncomputable def CallsOk (P : Program) (wb : World) (call : CX) : Prop := ∀ g ys H κ, call g ys H κ = true → CallOk P wb g ys H fun r H' => κ r H' = true
theorem opGX_out (hc : CallsOk P wb call) {all : List Oper} {o : Oper} {env : List A} {H : List Ob} {κ : List A → List Ob → Bool} {K : List A → List Ob → Prop} (h : ∀ x H, κ x H = true → K x H)
    (e : opGX call Θ all o env H κ = true) : opG P wb Θ all o env H K := by
  have run : (opX call Θ o.op env H fun v H' => putX env o.dst v fun env' => κ env' H') = true → opD P wb Θ o.op env H fun v H' => putK env o.dst v fun env' => K env' H' :=
    fun e => opX_out hc (fun _ _ e => putX_out (fun _ e => h _ _ e) e) e
  have skip : (putX env o.dst (.tup []) fun env' => κ env' H) = true → putK env o.dst (.tup []) fun env' => K env' H := fun e => putX_out (fun _ e => h _ _ e) e
  unfold opGX at e
  unfold opG
  cases hg : o.guard with
  | none => rw [hg] at e; exact run e
  | some jw =>
    obtain ⟨j, want⟩ := jw
    rw [hg] at e
    refine dstX_out (fun d e => getX_out (fun gv e => ?_) e) e
    split at e
    · rename_i t
      cases t <;> cases want <;> first | exact run e | exact skip e
    · exact skip e
    · cases e
noncomputable def runX (call : CX) (Θ : List (Nat × TI)) (all l : List Oper) : List A → List Ob → (List A → List Ob → Bool) → Bool :=
  @List.rec Oper (fun _ => List A → List Ob → (List A → List Ob → Bool) → Bool) (fun env H κ => κ env H)
    (fun o _ ih env H κ => opGX call Θ all o env H fun env' H' => ih env' H' κ) l
/-- where a truth value is told apart at once, nothing is lost -/
theorem opG_run {all r : List Oper} {o : Oper} {env : List A} {H : List Ob} {K : List A → List Ob → Prop} (h : opG P wb Θ all o env H fun env' H' => runOps P wb Θ all r env' H' K) :
    runOps P wb Θ all (o :: r) env H K := by
  rw [runOps_cons]
  unfold opG at h
  cases hg : o.guard with
  | none => rw [hg] at h; exact h
  | some jw =>
    obtain ⟨j, want⟩ := jw
    rw [hg] at h
    simp only at h ⊢
    obtain ⟨o', d, ho', hd, h⟩ := dstK_out h
    have dk : ∀ {all : List Oper} {j : Nat} {K : Nat → Prop}, all[j]? = some o' → K d → dstK all j K := by
      intro all
      induction all with
      | nil => intro j K h; simp at h
      | cons x xs ih =>
        intro j K h k
        cases j with
        | zero =>
          simp only [List.getElem?_cons_zero, Option.some.injEq] at h
          subst h
          simp only [dstK, hd]
          exact k
        | succ j => exact ih (by simpa using h) k
    refine dk ho' ?_
    rw [getK_eq] at h ⊢
    have same : ∀ t, (env[d]?).getD .undef = .d (.b t) → env.set d (.d (.b t)) = env := by
      intro t ht
      apply set_self
      cases he : env[d]? with
      | none => rw [he] at ht; cases ht
      | some x => rw [he] at ht; simp only [Option.getD_some] at ht; rw [ht]
    generalize hx : (env[d]?).getD .undef = x at h ⊢
    cases x with
    | d y =>
      cases y with
      | b t =>
        have hs := same t hx
        cases t <;> (simp only; refine setK_in ?_; rw [hs]; cases want <;> exact h)
      | _ => exact h
    | _ => exact h
theorem runX_out (hc : CallsOk P wb call) {all : List Oper} : ∀ {l : List Oper} {env : List A} {H : List Ob} {κ : List A → List Ob → Bool} {K : List A → List Ob → Prop}, (∀ x H, κ x H = true → K x H) →
    runX call Θ all l env H κ = true → runOps P wb Θ all l env H K
  | [], _, _, _, _, h, e => h _ _ e
  | o :: r, _, _, _, _, h, e => opG_run (opGX_out hc (fun _ _ e => runX_out hc h e) e)

noncomputable def fullB (all : List Oper) (o : Oper) (L : List Nat) : Bool := L.all fun k => match all[k]? with
  | some ok => !isStill ok.op || isPure ok.op || needs all 3 o k
  | none => true
noncomputable def findP (p : Nat → Bool) : List Nat → Option Nat
  | [] => none
  | x :: xs => match p x with
    | true => some x
    | false => findP p xs
/-- a plan for a region, by program -/
noncomputable def autoP (all : List Oper) : Nat → List Nat → Plan
  | 0, _ => .done
  | n + 1, L =>
    let ready := (List.range all.length).filter fun i => !L.contains i && (match all[i]? with
      | some o => (deps o).all (L.contains ·)
      | none => false)
    match findP (fun i => match all[i]? with
      | some o => isStill o.op
      | none => false) ready with
    | some i => .take i (autoP all n (i :: L))
    | none => match ready with
      | [] => .done
      | r => r.foldr (fun i p => .alt i (match all[i]? with
        | some o => fullB all o L
        | none => false) (autoP all n (i :: L)) p) .stop
noncomputable def atO (all : List Oper) (i : Nat) (κ : Oper → Bool) : Bool :=
  match all, i with
  | [], _ => false
  | o :: _, 0 => κ o
  | _ :: r, n + 1 => atO r n κ
theorem atO_out {κ : Oper → Bool} {K : Oper → Prop} (h : ∀ x, κ x = true → K x) : ∀ {all : List Oper} {j : Nat}, atO all j κ = true → opAt all j K
  | [], _, e => by simp [atO] at e
  | o :: _, 0, e => h _ e
  | _ :: r, n + 1, e => by
    simp only [atO] at e
    simp only [opAt]
    exact atO_out h e
noncomputable def planX (call : CX) (Θ : List (Nat × TI)) (all : List Oper) (κ : List A → List Ob → Bool) (p : Plan) : List A → List Ob → Bool :=
  @Plan.rec (fun _ => List A → List Ob → Bool)
    (fun env H => κ env H)
    (fun i _ ih env H => atO all i fun o => opGX call Θ all o env H fun env' H' => ih env' H')
    (fun i full _ _ ih ih' env H => (atO all i fun o => opGX call Θ all o env H fun env' H' => match full with
      | true => ih env' H'
      | false => (prefX H H').and (ih env' H')).and (ih' env H))
    (fun _ _ => true) p
theorem planX_out (hc : CallsOk P wb call) {all : List Oper} {κ : List A → List Ob → Bool} {K : List A → List Ob → Prop} (h : ∀ x H, κ x H = true → K x H) : ∀ {p : Plan} {env : List A} {H : List Ob},
    planX call Θ all κ p env H = true → runPlan P wb Θ all K p env H
  | .done, _, _, e => h _ _ e
  | .take i p, _, _, e => atO_out (fun _ e => opGX_out hc (fun _ _ e => planX_out hc h (p := p) e) e) e
  | .alt i full p r, env, H, e => by
    have e' : ((atO all i fun o => opGX call Θ all o env H fun env' H' => @Bool.rec (fun _ => Bool) ((prefX H H').and (planX call Θ all κ p env' H')) (planX call Θ all κ p env' H') full).and (planX call Θ all κ r env H)) = true := by
      cases full <;> exact e
    rw [Bool.and_eq_true] at e'
    clear e
    refine ⟨atO_out (fun o e => opGX_out hc (fun env' H' e => ?_) e) e'.1, planX_out hc h (p := r) e'.2⟩
    cases full with
    | true => exact planX_out hc h (p := p) e
    | false =>
      simp only [Bool.and_eq_true] at e
      exact ⟨prefX_out e.1, planX_out hc h (p := p) e.2⟩
  | .stop, _, _, _ => trivial

/-- one linear order alone? -/
noncomputable def linP : Plan → Bool
  | .done => true
  | .take _ p => linP p
  | .alt _ _ p r => (linP p).and (match r with
    | .stop => true
    | _ => false)
  | .stop => false
mutual
noncomputable def marks : A → List Nat → List Nat
  | .agg cs, r => marksL cs r
  | .tup cs, r => marksL cs r
  | .ptr o _, r => o :: r
  | .vp o _ _ _, r => o :: r
  | .vs o _ _, r => o :: r
  | .fn _ x y, r => marksL x (marksL y r)
  | .mp o, r => o :: r
  | _, r => r
noncomputable def marksL : List A → List Nat → List Nat
  | [], r => r
  | x :: xs, r => marks x (marksL xs r)
end
noncomputable def marksR : List (List A) → List Nat → List Nat
  | [], r => r
  | x :: xs, r => marksL x (marksR xs r)
noncomputable def marksE : List (Int × A) → List Nat → List Nat
  | [], r => r
  | x :: xs, r => marks x.2 (marksE xs r)
noncomputable def marksO : Ob → List Nat → List Nat
  | .box cs, r => marksL cs r
  | .vec _ _ els, r => marksR els r
  | .map _ es, r => marksE es r
  | .gone, r => r
noncomputable def marksH : Nat → List Ob → List Nat → List Nat
  | 0, _, r => r
  | _, [], r => r
  | n + 1, x :: xs, r => marksO x (marksH n xs r)
noncomputable def hasN : List Nat → Nat → Bool
  | [], _ => false
  | x :: xs, n => match Nat.beq x n with
    | true => true
    | false => hasN xs n
/-- the objects in the order in which they are come to -/
noncomputable def visit (H : List Ob) : Nat → List Nat → List Nat → (List Nat → Bool) → Bool
  | 0, _, _, _ => false
  | _ + 1, [], vis, κ => κ vis
  | n + 1, o :: todo, vis, κ => match hasN vis o with
    | true => visit H n todo vis κ
    | false => obX H o fun ob => snocX vis o fun vis' => visit H n (marksO ob todo) vis' κ
noncomputable def upto : Nat → Nat → (List Nat → Bool) → Bool
  | 0, _, κ => κ []
  | n + 1, i, κ => upto n (Nat.succ i) fun r => κ (i :: r)
noncomputable def posN : List Nat → Nat → Nat → (Nat → Bool) → Bool
  | [], _, _, _ => false
  | x :: xs, o, i, κ => match Nat.beq x o with
    | true => κ i
    | false => posN xs o (Nat.succ i) κ
mutual
/-- the objects' places in π -/
noncomputable def unA (π : List Nat) : A → (A → Bool) → Bool
  | .undef, κ => κ .undef
  | .d x, κ => κ (.d x)
  | .agg cs, κ => unAs π cs fun r => κ (.agg r)
  | .tup cs, κ => unAs π cs fun r => κ (.tup r)
  | .ptr o q, κ => posN π o 0 fun o => κ (.ptr o q)
  | .fp r, κ => κ (.fp r)
  | .vp o g i q, κ => posN π o 0 fun o => κ (.vp o g i q)
  | .vs o g q, κ => posN π o 0 fun o => κ (.vs o g q)
  | .es, κ => κ .es
  | .fn f x y, κ => unAs π x fun x => unAs π y fun y => κ (.fn f x y)
  | .nilp, κ => κ .nilp
  | .nilf, κ => κ .nilf
  | .mp o, κ => posN π o 0 fun o => κ (.mp o)
  | .nilm, κ => κ .nilm
noncomputable def unAs (π : List Nat) : List A → (List A → Bool) → Bool
  | [], κ => κ []
  | x :: xs, κ => unA π x fun x => unAs π xs fun r => κ (x :: r)
end
noncomputable def unAss (π : List Nat) : List (List A) → (List (List A) → Bool) → Bool
  | [], κ => κ []
  | x :: xs, κ => unAs π x fun x => unAss π xs fun r => κ (x :: r)
noncomputable def unEs (π : List Nat) : List (Int × A) → (List (Int × A) → Bool) → Bool
  | [], κ => κ []
  | x :: xs, κ => unA π x.2 fun y => unEs π xs fun r => κ ((x.1, y) :: r)
noncomputable def unOb (π : List Nat) : Ob → (Ob → Bool) → Bool
  | .box cs, κ => unAs π cs fun r => κ (.box r)
  | .vec g es els, κ => unAss π els fun r => κ (.vec g es r)
  | .map k es, κ => unEs π es fun r => κ (.map k r)
  | .gone, κ => κ .gone
noncomputable def unH (π : List Nat) (H : List Ob) : List Nat → (List Ob → Bool) → Bool
  | [], κ => κ []
  | p :: r, κ => obX H p fun ob => unOb π ob fun ob => unH π H r fun r => κ (ob :: r)
noncomputable def fuelN : Nat := 100000
noncomputable def order (n : Nat) (env : List A) (H : List Ob) (κ : List Nat → Bool) : Bool :=
  upto n 0 fun vis => visit H fuelN (marksL env (marksH n H [])) vis κ
noncomputable def idB : Nat → Nat → List Nat → Bool
  | 0, _, _ => true
  | n + 1, i, x :: xs => (Nat.beq x i).and (idB n (Nat.succ i) xs)
  | _ + 1, _, [] => false
noncomputable def distB : List Nat → Bool
  | [] => true
  | x :: xs => (!hasN xs x).and (distB xs)
noncomputable def obsB (π' : List Nat) (H : List Ob) : List Nat → List Ob → Bool
  | [], [] => true
  | p :: r, ob :: obs => (obX H p fun o => eqOb o (renOb π' ob)).and (obsB π' H r obs)
  | _, _ => false
noncomputable def isoB (n : Nat) (π : List Nat) (env : List A) (H : List Ob) (env0 : List A) (H0 : List Ob) : Bool :=
  (Nat.ble n H0.length).and ((idB n 0 π).and ((distB π).and ((eqAs env (renAs π env0)).and ((obsB π H π H0).and ((A.refsL H0.length env0).and (refsH H0.length H0))))))
theorem hasN_eq : ∀ {l : List Nat} {n : Nat}, hasN l n = true ↔ n ∈ l
  | [], n => by simp [hasN]
  | x :: xs, n => by
    simp only [hasN, List.mem_cons]
    rw [← hasN_eq (l := xs)]
    cases h : Nat.beq x n with
    | true => simp [(Nat.eq_of_beq_eq_true h).symm]
    | false =>
      have : ¬ n = x := by
        rintro rfl
        rw [Nat.beq_refl] at h
        cases h
      simp [this]
theorem idB_out : ∀ {n i : Nat} {l : List Nat}, idB n i l = true → ∀ o, o < n → l[o]? = some (i + o)
  | n + 1, i, x :: xs, h, o, ho => by
    simp only [idB, Bool.and_eq_true, Nat.beq_eq] at h
    cases o with
    | zero => simp [h.1]
    | succ o =>
      have := idB_out h.2 o (by omega)
      simp only [List.getElem?_cons_succ, this]
      congr 1
      omega
theorem distB_out : ∀ {l : List Nat}, distB l = true → ∀ (i j p : Nat), l[i]? = some p → l[j]? = some p → i = j
  | x :: xs, h, i, j, p, hi, hj => by
    simp only [distB, Bool.and_eq_true, Bool.not_eq_true'] at h
    have hn : x ∉ xs := by
      intro hm
      rw [hasN_eq.2 hm] at h
      cases h.1
    cases i with
    | zero =>
      cases j with
      | zero => rfl
      | succ j =>
        simp at hi hj
        subst hi
        exact absurd (List.mem_of_getElem? hj) hn
    | succ i =>
      cases j with
      | zero =>
        simp at hi hj
        subst hj
        exact absurd (List.mem_of_getElem? hi) hn
      | succ j =>
        have := distB_out h.2 i j p (by simpa using hi) (by simpa using hj)
        omega
theorem obsB_out {π' : List Nat} {H : List Ob} : ∀ {l : List Nat} {obs : List Ob}, obsB π' H l obs = true → l.length = obs.length ∧ ∀ (i p : Nat) (ob : Ob), l[i]? = some p → obs[i]? = some ob → H[p]? = some (renOb π' ob)
  | [], [], _ => ⟨rfl, by simp⟩
  | p :: r, ob :: obs, h => by
    simp only [obsB, Bool.and_eq_true] at h
    obtain ⟨h1, h2⟩ := obsB_out h.2
    refine ⟨by simp [h1], fun i q ob' hi ho => ?_⟩
    cases i with
    | zero =>
      simp at hi ho
      subst hi
      subst ho
      obtain ⟨o, k1, k2⟩ := getO_out _ _ _ (obX_out (K := fun o => o = renOb π' ob) (fun o e => eqOb_out _ _ e) h.1)
      rw [k1, k2]
    | succ i => exact h2 i q ob' (by simpa using hi) (by simpa using ho)
theorem isoB_out {n : Nat} {π : List Nat} {env : List A} {H : List Ob} {env0 : List A} {H0 : List Ob} (h : isoB n π env H env0 H0 = true) : Iso n π env H env0 H0 := by
  simp only [isoB, Bool.and_eq_true, Nat.ble_eq] at h
  obtain ⟨h1, h2, h3, h4, h5, h6, h7⟩ := h
  obtain ⟨k1, k2⟩ := obsB_out h5
  exact ⟨k1, h1, fun o ho => by have := idB_out h2 o ho; simpa using this, distB_out h3, eqAs_out _ _ h4, k2, h6, h7⟩

def loopX (body : List A → List Ob → (Ex → List A → List Ob → Bool) → Bool) (κ : Ex → List A → List Ob → Bool) : Nat → List A → List Ob → Bool
  | 0, _, _ => false
  | n + 1, env, H => body env H fun e env' H' => match e with
    | .normal => loopX body κ n env' H'
    | .exit i => κ (.exit i) env' H'
    | .ret => κ .ret env' H'
noncomputable def codeX (call : CX) (fuel : Nat) (Θ : List (Nat × TI)) (c : Code) : List A → List Ob → (Ex → List A → List Ob → Bool) → Bool :=
  @Code.rec (fun _ => List A → List Ob → (Ex → List A → List Ob → Bool) → Bool)
    (fun env H κ => κ .normal env H)
    (fun _ ops dr env H κ => match dr with
      | false => runX call Θ ops.toList ops.toList env H fun e h => κ .normal e h
      | true => (statB ops.toList (autoP ops.toList (Nat.succ ops.toList.length) [])).and
          (match linP (autoP ops.toList (Nat.succ ops.toList.length) []) with
          | true => planX call Θ ops.toList (fun e h => κ .normal e h) (autoP ops.toList (Nat.succ ops.toList.length) []) env H
          | false => lenX H 0 fun n => runX call Θ ops.toList ops.toList env H fun e h => order n e h fun π => unAs π e fun e0 => unH π h π fun h0 =>
              (planX call Θ ops.toList (fun e h => order n e h fun π => isoB n π e h e0 h0) (autoP ops.toList (Nat.succ ops.toList.length) []) env H).and (κ .normal e0 h0)))
    (fun _ _ x y env H κ => x env H fun e env' H' => match e with
      | .normal => y env' H' κ
      | .exit i => κ (.exit i) env' H'
      | .ret => κ .ret env' H')
    (fun c _ _ x y env H κ => evX env c fun v => match v with
      | .d (.b t) => match t with
        | true => x env H κ
        | false => y env H κ
      | _ => false)
    (fun id _ b env H κ => b env H fun e env' H' => match e with
      | .exit i => match Nat.beq i id with
        | true => κ .normal env' H'
        | false => κ (.exit i) env' H'
      | .normal => κ .normal env' H'
      | .ret => κ .ret env' H')
    (fun _ b env H κ => loopX b κ fuel env H)
    (fun _ _ _ _ _ _ _ _ _ => false)
    (fun id env H κ => κ (.exit id) env H)
    (fun _ ih env H κ => ih env H κ)
    (fun _ env H κ => κ .normal env H)
    (fun _ _ _ _ => false)
    (fun env H κ => κ .ret env H)
    (fun _ _ _ _ => false) c
theorem dstX_ex {all : List Oper} {j : Nat} {κ : Nat → Bool} (e : dstX all j κ = true) : ∃ v, κ v = true := by
  obtain ⟨_, d, _, _, h⟩ := dstK_out (dstX_out (K := fun v => κ v = true) (fun _ h => h) e)
  exact ⟨d, h⟩
theorem putX_ex {env : List A} {d : Option Nat} {v : A} {κ : List A → Bool} (e : putX env d v κ = true) : ∃ r, κ r = true := by
  cases d with
  | none => exact ⟨_, e⟩
  | some d =>
    simp only [putX, setX_eq] at e
    exact ⟨_, e⟩
theorem opGX_ex (hx : CallsEx call) (hc : CallsOk P wb call) {all : List Oper} {o : Oper} {env : List A} {H : List Ob} {κ : List A → List Ob → Bool} (e : opGX call Θ all o env H κ = true) : ∃ e' H', κ e' H' = true := by
  have run : (opX call Θ o.op env H fun v H' => putX env o.dst v fun env' => κ env' H') = true → ∃ e' H', κ e' H' = true := by
    intro e
    obtain ⟨v, H', e⟩ := opX_ex hx hc e
    obtain ⟨r, e⟩ := putX_ex e
    exact ⟨_, _, e⟩
  have skip : (putX env o.dst (.tup []) fun env' => κ env' H) = true → ∃ e' H', κ e' H' = true := by
    intro e
    obtain ⟨r, e⟩ := putX_ex e
    exact ⟨_, _, e⟩
  unfold opGX at e
  cases hg : o.guard with
  | none => rw [hg] at e; exact run e
  | some jw =>
    obtain ⟨j, want⟩ := jw
    rw [hg] at e
    obtain ⟨d, e⟩ := dstX_ex e
    obtain ⟨gv, e⟩ := getX_ex e
    split at e
    · rename_i t
      cases t <;> cases want <;> first | exact run e | exact skip e
    · exact skip e
    · cases e
theorem runX_ex (hx : CallsEx call) (hc : CallsOk P wb call) {all : List Oper} : ∀ {l : List Oper} {env : List A} {H : List Ob} {κ : List A → List Ob → Bool}, runX call Θ all l env H κ = true → ∃ e' H', κ e' H' = true
  | [], _, _, _, e => ⟨_, _, e⟩
  | o :: r, _, _, _, e => by
    obtain ⟨e', H', h⟩ := opGX_ex hx hc e
    exact runX_ex hx hc (l := r) h
theorem atO_ex : ∀ {all : List Oper} {i : Nat} {κ : Oper → Bool}, atO all i κ = true → ∃ o, κ o = true
  | [], _, _, e => by simp [atO] at e
  | o :: _, 0, _, e => ⟨o, e⟩
  | _ :: r, n + 1, _, e => by
    simp only [atO] at e
    exact atO_ex e
theorem planX_ex (hx : CallsEx call) (hc : CallsOk P wb call) {all : List Oper} {κ : List A → List Ob → Bool} : ∀ {p : Plan} {env : List A} {H : List Ob}, linP p = true → planX call Θ all κ p env H = true → ∃ e' H', κ e' H' = true
  | .done, _, _, _, e => ⟨_, _, e⟩
  | .take i p, _, _, hl, e => by
    obtain ⟨o, e⟩ := atO_ex e
    obtain ⟨e', H', e⟩ := opGX_ex hx hc e
    exact planX_ex hx hc (p := p) hl e
  | .alt i full p r, env, H, hl, e => by
    have e' : ((atO all i fun o => opGX call Θ all o env H fun env' H' => @Bool.rec (fun _ => Bool) ((prefX H H').and (planX call Θ all κ p env' H')) (planX call Θ all κ p env' H') full).and (planX call Θ all κ r env H)) = true := by
      cases full <;> exact e
    rw [Bool.and_eq_true] at e'
    clear e
    simp only [linP, Bool.and_eq_true] at hl
    obtain ⟨o, e⟩ := atO_ex e'.1
    obtain ⟨e', H', e⟩ := opGX_ex hx hc e
    cases full with
    | true => exact planX_ex hx hc (p := p) hl.1 e
    | false =>
      simp only [Bool.and_eq_true] at e
      exact planX_ex hx hc (p := p) hl.1 e.2
  | .stop, _, _, hl, _ => by simp [linP] at hl
theorem upto_ex : ∀ {n i : Nat} {κ : List Nat → Bool}, upto n i κ = true → ∃ r, κ r = true
  | 0, _, _, e => ⟨_, e⟩
  | n + 1, _, _, e => by
    obtain ⟨r, e⟩ := upto_ex (n := n) e
    exact ⟨_, e⟩
theorem visit_ex {H : List Ob} : ∀ {n : Nat} {todo vis : List Nat} {κ : List Nat → Bool}, visit H n todo vis κ = true → ∃ r, κ r = true
  | 0, _, _, _, e => by simp [visit] at e
  | _ + 1, [], _, _, e => ⟨_, e⟩
  | n + 1, o :: todo, vis, κ, e => by
    simp only [visit] at e
    split at e
    · exact visit_ex (n := n) e
    · obtain ⟨ob, e⟩ := obX_ex e
      rw [snocX_eq] at e
      exact visit_ex (n := n) e
theorem order_ex {n : Nat} {env : List A} {H : List Ob} {κ : List Nat → Bool} (e : order n env H κ = true) : ∃ r, κ r = true := by
  obtain ⟨_, e⟩ := upto_ex e
  exact visit_ex e
theorem posN_ex : ∀ {π : List Nat} {o i : Nat} {κ : Nat → Bool}, posN π o i κ = true → ∃ r, κ r = true
  | [], _, _, _, e => by simp [posN] at e
  | x :: xs, o, i, κ, e => by
    simp only [posN] at e
    split at e
    · exact ⟨_, e⟩
    · exact posN_ex e
mutual
theorem unA_ex {π : List Nat} : ∀ (x : A) {κ : A → Bool}, unA π x κ = true → ∃ r, κ r = true
  | .agg cs, κ, e => by
    simp only [unA] at e
    obtain ⟨r, e⟩ := unAs_ex cs e
    exact ⟨_, e⟩
  | .tup cs, κ, e => by
    simp only [unA] at e
    obtain ⟨r, e⟩ := unAs_ex cs e
    exact ⟨_, e⟩
  | .ptr o q, κ, e => by
    simp only [unA] at e
    obtain ⟨r, e⟩ := posN_ex e
    exact ⟨_, e⟩
  | .vp o g i q, κ, e => by
    simp only [unA] at e
    obtain ⟨r, e⟩ := posN_ex e
    exact ⟨_, e⟩
  | .vs o g q, κ, e => by
    simp only [unA] at e
    obtain ⟨r, e⟩ := posN_ex e
    exact ⟨_, e⟩
  | .mp o, κ, e => by
    simp only [unA] at e
    obtain ⟨r, e⟩ := posN_ex e
    exact ⟨_, e⟩
  | .fn f x y, κ, e => by
    simp only [unA] at e
    obtain ⟨r, e⟩ := unAs_ex x e
    obtain ⟨r, e⟩ := unAs_ex y e
    exact ⟨_, e⟩
  | .undef, _, e | .d _, _, e | .fp _, _, e | .es, _, e | .nilp, _, e | .nilf, _, e | .nilm, _, e => ⟨_, e⟩
theorem unAs_ex {π : List Nat} : ∀ (xs : List A) {κ : List A → Bool}, unAs π xs κ = true → ∃ r, κ r = true
  | [], _, e => ⟨_, e⟩
  | x :: xs, κ, e => by
    simp only [unAs] at e
    obtain ⟨_, e⟩ := unA_ex x e
    obtain ⟨_, e⟩ := unAs_ex xs e
    exact ⟨_, e⟩
end
theorem unAss_ex {π : List Nat} : ∀ {xs : List (List A)} {κ : List (List A) → Bool}, unAss π xs κ = true → ∃ r, κ r = true
  | [], _, e => ⟨_, e⟩
  | x :: xs, κ, e => by
    simp only [unAss] at e
    obtain ⟨_, e⟩ := unAs_ex x e
    obtain ⟨_, e⟩ := unAss_ex (xs := xs) e
    exact ⟨_, e⟩
theorem unEs_ex {π : List Nat} : ∀ {xs : List (Int × A)} {κ : List (Int × A) → Bool}, unEs π xs κ = true → ∃ r, κ r = true
  | [], _, e => ⟨_, e⟩
  | x :: xs, κ, e => by
    simp only [unEs] at e
    obtain ⟨_, e⟩ := unA_ex _ e
    obtain ⟨_, e⟩ := unEs_ex (xs := xs) e
    exact ⟨_, e⟩
theorem unH_ex {π : List Nat} {H : List Ob} : ∀ {l : List Nat} {κ : List Ob → Bool}, unH π H l κ = true → ∃ r, κ r = true
  | [], _, e => ⟨_, e⟩
  | p :: r, κ, e => by
    simp only [unH] at e
    obtain ⟨ob, e⟩ := obX_ex e
    have : ∃ ob', (unH π H r fun r => κ (ob' :: r)) = true := by
      cases ob with
      | box cs => obtain ⟨_, e⟩ := unAs_ex cs e; exact ⟨_, e⟩
      | vec g es els => obtain ⟨_, e⟩ := unAss_ex e; exact ⟨_, e⟩
      | map k es => obtain ⟨_, e⟩ := unEs_ex e; exact ⟨_, e⟩
      | gone => exact ⟨_, e⟩
    obtain ⟨_, e⟩ := this
    obtain ⟨_, e⟩ := unH_ex (l := r) e
    exact ⟨_, e⟩
theorem loopX_ex {body : List A → List Ob → (Ex → List A → List Ob → Bool) → Bool} (hb : ∀ {env H} {κ : Ex → List A → List Ob → Bool}, body env H κ = true → ∃ e' env' H', κ e' env' H' = true)
    {κ : Ex → List A → List Ob → Bool} : ∀ {n : Nat} {env : List A} {H : List Ob}, loopX body κ n env H = true → ∃ e' env' H', κ e' env' H' = true
  | 0, _, _, e => by cases e
  | n + 1, env, H, e => by
    obtain ⟨e', env', H', e⟩ := hb e
    cases e' with
    | normal => exact loopX_ex hb e
    | exit i => exact ⟨_, _, _, e⟩
    | ret => exact ⟨_, _, _, e⟩
theorem codeX_ex (hx : CallsEx call) (hc : CallsOk P wb call) {fuel : Nat} : ∀ (c : Code) {env : List A} {H : List Ob} {κ : Ex → List A → List Ob → Bool}, codeX call fuel Θ c env H κ = true → ∃ e' env' H', κ e' env' H' = true := by
  intro c
  induction c with
  | region n ops dr =>
    intro env H κ e
    cases dr with
    | false =>
      obtain ⟨_, _, e⟩ := runX_ex hx hc e
      exact ⟨_, _, _, e⟩
    | true =>
      have e' : ((statB ops.toList (autoP ops.toList (Nat.succ ops.toList.length) [])).and
          (match linP (autoP ops.toList (Nat.succ ops.toList.length) []) with
          | true => planX call Θ ops.toList (fun e h => κ .normal e h) (autoP ops.toList (Nat.succ ops.toList.length) []) env H
          | false => lenX H 0 fun n => runX call Θ ops.toList ops.toList env H fun e h => order n e h fun π => unAs π e fun e0 => unH π h π fun h0 =>
              (planX call Θ ops.toList (fun e h => order n e h fun π => isoB n π e h e0 h0) (autoP ops.toList (Nat.succ ops.toList.length) []) env H).and (κ .normal e0 h0))) = true := e
      rw [Bool.and_eq_true] at e'
      obtain ⟨_, e2⟩ := e'
      split at e2
      · rename_i hl
        obtain ⟨_, _, e⟩ := planX_ex hx hc hl e2
        exact ⟨_, _, _, e⟩
      · rw [lenX_eq] at e2
        obtain ⟨_, _, e2⟩ := runX_ex hx hc e2
        obtain ⟨_, e2⟩ := order_ex e2
        obtain ⟨e0, e2⟩ := unAs_ex _ e2
        obtain ⟨h0, e2⟩ := unH_ex e2
        rw [Bool.and_eq_true] at e2
        exact ⟨_, _, _, e2.2⟩
  | seq x y ihx ihy =>
    intro env H κ e
    obtain ⟨e', _, _, e⟩ := ihx e
    cases e' with
    | normal => exact ihy e
    | exit i => exact ⟨_, _, _, e⟩
    | ret => exact ⟨_, _, _, e⟩
  | cond c x y ihx ihy =>
    intro env H κ e
    obtain ⟨v, e⟩ := evX_ex e
    split at e
    · rename_i t
      cases t with
      | true => exact ihx e
      | false => exact ihy e
    · cases e
  | block id b ih =>
    intro env H κ e
    obtain ⟨e', _, _, e⟩ := ih e
    cases e' with
    | normal => exact ⟨_, _, _, e⟩
    | exit i =>
      simp only at e
      split at e <;> exact ⟨_, _, _, e⟩
    | ret => exact ⟨_, _, _, e⟩
  | loop b ih =>
    intro env H κ e
    exact loopX_ex ih e
  | scope b ih =>
    intro env H κ e
    exact ih e
  | _ =>
    intro env H κ e
    first
      | exact ⟨_, _, _, e⟩
      | (cases e)
theorem loopX_out (hΘ : ΘOk P Θ) {b : Code} {body : List A → List Ob → (Ex → List A → List Ob → Bool) → Bool}
    (hb : ∀ env H (κ : Ex → List A → List Ob → Bool) (Q : Ex → List A → List Ob → Prop), (∀ e env H, κ e env H = true → Q e env H) → body env H κ = true → wpD P wb Θ b env H Q)
    {κ : Ex → List A → List Ob → Bool} {Q : Ex → List A → List Ob → Prop} (h : ∀ e env H, κ e env H = true → Q e env H) : ∀ {n : Nat} {env : List A} {H : List Ob}, loopX body κ n env H = true → TriL P wb b env H Q
  | 0, _, _, e => by cases e
  | n + 1, env, H, e => by
    refine unroll hΘ (hb _ _ _ _ (fun e env' H' he => ?_) e)
    cases e with
    | normal => exact loopX_out hΘ hb h he
    | exit i => exact h _ _ _ he
    | ret => exact h _ _ _ he
theorem codeX_out (hΘ : ΘOk P Θ) (hm : P.follows .mixedOrders = true) (hx : CallsEx call) (hc : CallsOk P wb call) {fuel : Nat} : ∀ (c : Code) (env : List A) (H : List Ob) (κ : Ex → List A → List Ob → Bool) (Q : Ex → List A → List Ob → Prop),
    (∀ e env H, κ e env H = true → Q e env H) → codeX call fuel Θ c env H κ = true → wpD P wb Θ c env H Q := by
  intro c
  induction c with
  | region n ops dr =>
    intro env H κ Q h e
    cases dr with
    | false => exact runX_out hc (fun _ _ e => h _ _ _ e) e
    | true =>
      have e' : ((statB ops.toList (autoP ops.toList (Nat.succ ops.toList.length) [])).and
          (match linP (autoP ops.toList (Nat.succ ops.toList.length) []) with
          | true => planX call Θ ops.toList (fun e h => κ .normal e h) (autoP ops.toList (Nat.succ ops.toList.length) []) env H
          | false => lenX H 0 fun n => runX call Θ ops.toList ops.toList env H fun e h => order n e h fun π => unAs π e fun e0 => unH π h π fun h0 =>
              (planX call Θ ops.toList (fun e h => order n e h fun π => isoB n π e h e0 h0) (autoP ops.toList (Nat.succ ops.toList.length) []) env H).and (κ .normal e0 h0))) = true := e
      rw [Bool.and_eq_true] at e'
      obtain ⟨e1, e2⟩ := e'
      split at e2
      · exact region_plan hΘ hm _ e1 (planX_out hc (fun _ _ e => h _ _ _ e) e2)
      · rw [lenX_eq, Nat.zero_add] at e2
        obtain ⟨_, _, e2⟩ := runX_ex hx hc e2
        obtain ⟨_, e2⟩ := order_ex e2
        obtain ⟨e0, e2⟩ := unAs_ex _ e2
        obtain ⟨h0, e2⟩ := unH_ex e2
        rw [Bool.and_eq_true] at e2
        refine TriS.iso (region_plan hΘ hm _ e1 (planX_out hc (fun e' h' e3 => ?_) e2.1))
        obtain ⟨π, e3⟩ := order_ex e3
        exact ⟨π, e0, h0, isoB_out e3, h _ _ _ e2.2⟩
  | seq x y ihx ihy =>
    intro env H κ Q h e
    refine ihx _ _ _ _ (fun e env' H' he => ?_) e
    cases e with
    | normal => exact ihy _ _ _ _ h he
    | exit i => exact h _ _ _ he
    | ret => exact h _ _ _ he
  | cond c x y ihx ihy =>
    intro env H κ Q h e
    refine evX_out (fun v e => ?_) e
    split at e
    · rename_i t
      cases t with
      | true => exact ihx _ _ _ _ h e
      | false => exact ihy _ _ _ _ h e
    · cases e
  | block id b ih =>
    intro env H κ Q h e
    refine ih _ _ _ _ (fun e env' H' he => ?_) e
    cases e with
    | normal => exact h _ _ _ he
    | exit i =>
      simp only at he ⊢
      split at he
      · rename_i hb; rw [hb]; exact h _ _ _ he
      · rename_i hb; rw [hb]; exact h _ _ _ he
    | ret => exact h _ _ _ he
  | loop b ih =>
    intro env H κ Q h e
    exact TriL.loop (loopX_out hΘ ih h e)
  | scope b ih =>
    intro env H κ Q h e
    exact ih _ _ _ _ h e
  | _ =>
    intro env H κ Q h e
    first
      | exact h _ _ _ e
      | (cases e)

noncomputable def resX (Θ : List (Nat × TI)) (env : List A) (H : List Ob) : List ResultVar → (List A → Bool) → Bool
  | [], κ => κ []
  | r :: rs, κ => (match r with
    | .tmp t => getX env t fun v => resX Θ env H rs fun l => κ (v :: l)
    | .cell a t => tiX Θ t fun ti => getX env a fun p => match p with
      | .ptr o off => obX H o fun ob => match ob with
        | .box cs => ldAX ti cs off fun v => resX Θ env H rs fun l => κ (v :: l)
        | _ => false
      | _ => false)
theorem resX_out {env : List A} {H : List Ob} : ∀ {l : List ResultVar} {κ : List A → Bool} {K : List A → Prop}, (∀ x, κ x = true → K x) → resX Θ env H l κ = true → resK Θ env H l K
  | [], _, _, h, e => h _ e
  | .tmp t :: rs, _, _, h, e => getX_out (fun _ e => resX_out (l := rs) (fun _ e => h _ e) e) e
  | .cell a t :: rs, _, _, h, e => by
    simp only [resX] at e
    refine tiX_out (fun ti e => getX_out (fun p e => ?_) e) e
    split at e
    · refine obX_out (fun ob e => ?_) e
      split at e
      · exact ldAX_out (fun _ e => resX_out (l := rs) (fun _ e => h _ e) e) e
      · cases e
    · cases e
noncomputable def oneX (l : List A) (κ : A → Bool) : Bool :=
  match l with
  | [v] => κ v
  | l => κ (.tup l)
theorem oneX_out {l : List A} {κ : A → Bool} {K : A → Prop} (h : ∀ x, κ x = true → K x) (e : oneX l κ = true) : oneK l K := by
  match l, e with
  | [], e => exact h _ e
  | [_], e => exact h _ e
  | _ :: _ :: _, e => exact h _ e
noncomputable def funX : List (Nat × Func) → Nat → (Func → Bool) → Bool
  | [], _, _ => false
  | p :: r, f, κ => match Nat.beq p.1 f with
    | true => κ p.2
    | false => funX r f κ
theorem funX_out : ∀ {tab : List (Nat × Func)} {f : Nat} {κ : Func → Bool}, funX tab f κ = true → ∃ fn, (f, fn) ∈ tab ∧ κ fn = true
  | [], _, _, e => by cases e
  | p :: r, f, κ, e => by
    simp only [funX] at e
    split at e
    · rename_i h
      exact ⟨p.2, by rw [← Nat.eq_of_beq_eq_true h]; exact List.mem_cons_self, e⟩
    · obtain ⟨fn, h1, h2⟩ := funX_out e
      exact ⟨fn, List.mem_cons_of_mem _ h1, h2⟩
noncomputable def padX (xs : List A) (n : Nat) (κ : List A → Bool) : Bool := lenX xs 0 fun m => force (n - m) fun k => repX [.undef] k fun r => appX xs r κ
theorem padX_eq (xs : List A) (n : Nat) (κ : List A → Bool) : padX xs n κ = κ (xs ++ List.replicate (n - xs.length) .undef) := by
  rw [padX, lenX_eq, force_eq, repX_one, appX_eq, Nat.zero_add]
structure Cl where
  f : Nat
  es : Nat
  bytes : Nat
/-- a copy of a slice by its contract, else the rest -/
noncomputable def cloneX (f : Nat) (xs : List A) (H : List Ob) (κ : A → List Ob → Bool) (rest : Bool) : List Cl → Bool
  | [] => rest
  | c :: cs => match Nat.beq c.f f with
    | true => (match xs with
      | [x] => rowsX x H fun ys => rowsOf c.es ys 0 fun n => (Nat.ble (n * c.bytes) 140737488355328).and (lenX H 0 fun k => snocX H (.vec 0 c.es ys) fun H' => κ (.vs k 0 0) H')
      | _ => false)
    | false => cloneX f xs H κ rest cs
def ClOk (P : Program) (wb : World) (cl : List Cl) : Prop := ∀ c ∈ cl, ∀ (x : A) (H : List Ob) (K : A → List Ob → Prop),
  (rowsK x H fun ys => (∀ r ∈ ys, r.length = c.es) ∧ ys.length * c.bytes ≤ 140737488355328 ∧ K (.vs H.length 0 0) (H ++ [.vec 0 c.es ys])) → CallOk P wb c.f [x] H K
theorem rowsX_ex {y : A} {H : List Ob} {κ : List (List A) → Bool} (e : rowsX y H κ = true) : ∃ r, κ r = true :=
  rowsK_ex (rowsX_out (K := fun r => κ r = true) (fun _ h => h) e)
theorem cloneX_out {f : Nat} {xs : List A} {H : List Ob} {κ : A → List Ob → Bool} {rest : Bool} (hr : rest = true → CallOk P wb f xs H fun r H' => κ r H' = true) : ∀ {cl : List Cl}, ClOk P wb cl →
    cloneX f xs H κ rest cl = true → CallOk P wb f xs H fun r H' => κ r H' = true
  | [], _, e => hr e
  | c :: cs, hc, e => by
    simp only [cloneX] at e
    split at e
    · rename_i hf
      obtain rfl := Nat.eq_of_beq_eq_true hf
      split at e
      · refine hc c List.mem_cons_self _ _ _ (rowsX_out (fun ys e => ?_) e)
        obtain ⟨h1, e⟩ := rowsOf_eq _ _ _ _ e
        rw [Nat.zero_add, Bool.and_eq_true, Nat.ble_eq, lenX_eq, snocX_eq, Nat.zero_add] at e
        exact ⟨h1, e.1, e.2⟩
      · cases e
    · exact cloneX_out hr (fun c' h => hc c' (List.mem_cons_of_mem _ h)) e
theorem cloneX_ex {f : Nat} {xs : List A} {H : List Ob} {κ : A → List Ob → Bool} {rest : Bool} (hr : rest = true → ∃ r H', κ r H' = true) : ∀ {cl : List Cl},
    cloneX f xs H κ rest cl = true → ∃ r H', κ r H' = true
  | [], e => hr e
  | c :: cs, e => by
    simp only [cloneX] at e
    split at e
    · split at e
      · obtain ⟨ys, e⟩ := rowsX_ex e
        obtain ⟨h1, e⟩ := rowsOf_eq _ _ _ _ e
        rw [Nat.zero_add, Bool.and_eq_true, Nat.ble_eq, lenX_eq, snocX_eq, Nat.zero_add] at e
        exact ⟨_, _, e.2⟩
      · cases e
    · exact cloneX_ex hr e
/-- what a call leaves, without what nobody can come to -/
noncomputable def sweep (n : Nat) (r : A) (H : List Ob) (κ : A → List Ob → Bool) : Bool :=
  lenX H 0 fun m => match Nat.ble m (n + 4) with
    | true => κ r H
    | false => order n [r] H fun π => unA π r fun r0 => unH π H π fun h0 => (isoB n π [r] H [r0] h0).and (κ r0 h0)
theorem sweep_out {n : Nat} {r : A} {H : List Ob} {κ : A → List Ob → Bool} (e : sweep n r H κ = true) : κ r H = true ∨ ∃ π r0 H0, Iso n π [r] H [r0] H0 ∧ κ r0 H0 = true := by
  unfold sweep at e
  rw [lenX_eq] at e
  split at e
  · exact .inl e
  · obtain ⟨π, e⟩ := order_ex e
    obtain ⟨r0, e⟩ := unA_ex _ e
    obtain ⟨h0, e⟩ := unH_ex e
    rw [Bool.and_eq_true] at e
    exact .inr ⟨π, r0, h0, isoB_out e.1, e.2⟩
noncomputable def callX (tab : List (Nat × Func)) (Θ : List (Nat × TI)) (cl : List Cl) : Nat → CX
  | 0 => fun _ _ _ _ => false
  | n + 1 => fun f xs H κ => cloneX f xs H κ (funX tab f fun fn => match fn.body with
    | none => false
    | some c => lenX H 0 fun nH => padX xs fn.ntmps fun env => codeX (callX tab Θ cl n) n Θ c env H fun e env' H' => match e with
      | .normal => resX Θ env' H' fn.results.toList fun l => oneX l fun r => sweep nH r H' κ
      | .ret => resX Θ env' H' fn.results.toList fun l => oneX l fun r => sweep nH r H' κ
      | .exit _ => false) cl
noncomputable def TabOk (P : Program) (tab : List (Nat × Func)) : Prop := ∀ p ∈ tab, P.funcs[p.1]? = some p.2 ∧ ∀ (args : Array Value) (w : World), (callFunc p.1 args).run P w = .ok (.enter p.1 args) w
theorem resX_ex {env : List A} {H : List Ob} : ∀ {l : List ResultVar} {κ : List A → Bool}, resX Θ env H l κ = true → ∃ r, κ r = true
  | [], _, e => ⟨_, e⟩
  | .tmp t :: rs, _, e => by
    obtain ⟨_, e⟩ := getX_ex e
    obtain ⟨_, e⟩ := resX_ex (l := rs) e
    exact ⟨_, e⟩
  | .cell a t :: rs, _, e => by
    simp only [resX] at e
    obtain ⟨_, e⟩ := tiX_ex e
    obtain ⟨_, e⟩ := getX_ex e
    split at e
    · obtain ⟨_, e⟩ := obX_ex e
      split at e
      · obtain ⟨_, e⟩ := ldAX_ex e
        obtain ⟨_, e⟩ := resX_ex (l := rs) e
        exact ⟨_, e⟩
      · cases e
    · cases e
theorem oneX_ex {l : List A} {κ : A → Bool} (e : oneX l κ = true) : ∃ r, κ r = true := by
  match l, e with
  | [], e => exact ⟨_, e⟩
  | [_], e => exact ⟨_, e⟩
  | _ :: _ :: _, e => exact ⟨_, e⟩
theorem callX_out {tab : List (Nat × Func)} {cl : List Cl} (hΘ : ΘOk P Θ) (hm : P.follows .mixedOrders = true) (ht : TabOk P tab) (hcl : ClOk P wb cl) : ∀ n, CallsOk P wb (callX tab Θ cl n) ∧ CallsEx (callX tab Θ cl n)
  | 0 => ⟨(by intro g ys H κ e; cases e), (by intro g ys H κ e; cases e)⟩
  | n + 1 => by
    obtain ⟨ic, ix⟩ := callX_out hΘ hm ht hcl n
    constructor
    · intro g ys H κ e
      refine cloneX_out (fun e => ?_) hcl e
      obtain ⟨fn, h1, e⟩ := funX_out e
      obtain ⟨hf, he⟩ := ht _ h1
      suffices CallOk P wb g ys H fun r H' => κ r H' = true ∨ ∃ π r0 H0, Iso H.length π [r] H' [r0] H0 ∧ κ r0 H0 = true by
        refine callOk_iso2 this
      refine callOk_intro hΘ hf he ?_
      unfold wpF
      cases hb : fn.body with
      | none => rw [hb] at e; cases e
      | some c =>
        rw [hb] at e
        simp only at e ⊢
        rw [lenX_eq, Nat.zero_add, padX_eq] at e
        refine codeX_out hΘ hm ix ic c _ _ _ _ (fun e env' H' he => ?_) e
        cases e with
        | normal => exact resX_out (fun _ e => oneX_out (fun _ e => sweep_out e) e) he
        | ret => exact resX_out (fun _ e => oneX_out (fun _ e => sweep_out e) e) he
        | exit i => cases he
    · intro g ys H κ e
      refine cloneX_ex (fun e => ?_) e
      obtain ⟨fn, h1, e⟩ := funX_out e
      cases hb : fn.body with
      | none => rw [hb] at e; cases e
      | some c =>
        rw [hb] at e
        simp only at e
        rw [lenX_eq, padX_eq] at e
        have fin : ∀ {n : Nat} {r : A} {H' : List Ob}, sweep n r H' κ = true → ∃ r H', κ r H' = true := by
          intro n r H' e
          rcases sweep_out e with e | ⟨_, _, _, _, e⟩
          · exact ⟨_, _, e⟩
          · exact ⟨_, _, e⟩
        obtain ⟨e', env', H', e⟩ := codeX_ex ix ic c e
        cases e' with
        | normal =>
          obtain ⟨_, e⟩ := resX_ex e
          obtain ⟨_, e⟩ := oneX_ex e
          exact fin e
        | ret =>
          obtain ⟨_, e⟩ := resX_ex e
          obtain ⟨_, e⟩ := oneX_ex e
          exact fin e
        | exit i => cases e
end
end X
end Go.DL
