/- Regions whose operations may be taken in any order: by a plan. -/
import Derived.Test.YtidjlmjibfbmjaaGreatDoorDl15
import Derived.Still
namespace Go.DL
open Go.RowKit

section
variable {env env' : List A}
theorem evsK_local : ∀ {xs : List Operand}, (∀ x ∈ xs, ∀ K : A → Prop, evK env x K = evK env' x K) → ∀ K : List A → Prop, evsK env xs K = evsK env' xs K
  | [], _, K => rfl
  | x :: xs, h, K => by
    simp only [evsK]
    rw [h x (by simp)]
    congr 1
    funext v
    exact evsK_local (fun y hy => h y (by simp [hy])) _
theorem fillK_local {place : Nat → (Nat → Nat → Prop) → Prop} : ∀ {ps : List (Nat × Operand)}, (∀ p ∈ ps, ∀ K : A → Prop, evK env p.2 K = evK env' p.2 K) → ∀ (cs : List A) (K : List A → Prop), fillK env place ps cs K = fillK env' place ps cs K
  | [], _, _, _ => rfl
  | p :: ps, h, cs, K => by
    simp only [fillK]
    rw [h p (by simp)]
    congr 1
    funext v
    congr 1
    funext vc
    congr 1
    funext off size
    congr 1
    congr 1
    funext cs'
    exact fillK_local (fun y hy => h y (by simp [hy])) _ _
theorem optK_local {x : Option Operand} (h : ∀ y, x = some y → ∀ K : A → Prop, evK env y K = evK env' y K) (K : Option Int → Prop) : optK env x K = optK env' x K := by
  cases x with
  | none => rfl
  | some y => simp only [optK]; exact h y rfl _
theorem opD_local {P : Program} {wb : World} {Θ : List (Nat × TI)} {o : Op} (hx : ∀ x ∈ o.operands.toList, ∀ K : A → Prop, evK env x K = evK env' x K) (H : List Ob) (K : A → List Ob → Prop) :
    opD P wb Θ o env H K = opD P wb Θ o env' H K := by
  cases o with
  | build t parts =>
    have hp : ∀ p ∈ parts.toList, ∀ K : A → Prop, evK env p.2 K = evK env' p.2 K := fun p hp => hx p.2 (by simp only [Op.operands]; exact List.mem_map.2 ⟨p, hp, rfl⟩)
    simp only [opD, fun place => fillK_local (place := place) hp]
  | buildSlice t n parts =>
    have hp : ∀ p ∈ parts.toList, ∀ K : A → Prop, evK env p.2 K = evK env' p.2 K := fun p hp => hx p.2 (by simp only [Op.operands]; exact List.mem_map.2 ⟨p, hp, rfl⟩)
    simp only [opD, fun place => fillK_local (place := place) hp]
  | makeFunc f fs cs =>
    cases f with
    | func f =>
      have h1 := evsK_local (xs := fs.toList) (fun x h => hx x (by simp only [Op.operands, Array.toList_append]; exact List.mem_append_left _ h))
      have h2 := evsK_local (xs := cs.toList) (fun x h => hx x (by simp only [Op.operands, Array.toList_append]; exact List.mem_append_right _ h))
      simp only [opD, h1, h2]
    | _ => rfl
  | slice t x lo hi mx =>
    have h0 := hx x (by simp [Op.operands])
    have h1 := optK_local (x := lo) (fun y hy => hx y (by subst hy; simp [Op.operands]))
    have h2 := optK_local (x := hi) (fun y hy => hx y (by subst hy; simp [Op.operands]))
    have h3 := optK_local (x := mx) (fun y hy => hx y (by subst hy; simp [Op.operands]))
    simp only [opD, h0, h1, h2, h3]
  | makeMap t r => cases r <;> rfl
  | binOp op t x y b =>
    have h1 := hx x (by simp [Op.operands])
    have h2 := hx y (by simp [Op.operands])
    simp only [opD, h1]
    congr 1
    funext a
    split
    · rfl
    · exact h2 _
  | call c =>
    cases hc : c.callee with
    | value f =>
      have h1 := hx f (by simp [Op.operands, Call.operands, hc])
      have h2 := evsK_local (xs := c.args.toList) (fun x h => hx x (by simp only [Op.operands, Call.operands, hc, Array.toList_append]; exact List.mem_append_right _ h))
      simp only [opD, hc, h1, h2]
    | invoke r n => simp only [opD, hc]
    | builtin b =>
      have h2 : ∀ x ∈ c.args.toList, ∀ K : A → Prop, evK env x K = evK env' x K := fun x h => hx x (by simp only [Op.operands, Call.operands, hc, Array.toList_append]; exact List.mem_append_right _ h)
      cases b with
      | len =>
        simp only [opD, hc]
        split
        · rename_i x t hx' ht
          rw [hx'] at h2
          have e := h2 x (by simp)
          simp only [e]
        · rfl
      | append =>
        simp only [opD, hc]
        split
        · rename_i x y t t' hx' ht
          rw [hx'] at h2
          have e := h2 x (by simp)
          have e' := h2 y (by simp)
          simp only [e, e']
        · rfl
      | clear =>
        simp only [opD, hc]
        split
        · rename_i x t hx' ht
          rw [hx'] at h2
          have e := h2 x (by simp)
          simp only [e]
        · rfl
      | delete =>
        simp only [opD, hc]
        split
        · rename_i x y t ts hx' ht
          rw [hx'] at h2
          have e := h2 x (by simp)
          have e' := h2 y (by simp)
          simp only [e, e']
        · rfl
      | _ => simp only [opD, hc]
  | unOp op t x =>
    have h1 := hx x (by simp [Op.operands])
    simp only [opD, h1]
  | alloc t => rfl
  | move x => simp only [opD, hx x (by simp [Op.operands])]
  | assign x => simp only [opD, hx x (by simp [Op.operands])]
  | box t x => simp only [opD, hx x (by simp [Op.operands])]
  | load t x => simp only [opD, hx x (by simp [Op.operands])]
  | nilCheck x => simp only [opD, hx x (by simp [Op.operands])]
  | convert s d x => simp only [opD, hx x (by simp [Op.operands])]
  | fieldAddr t x f => simp only [opD, hx x (by simp [Op.operands])]
  | field t x f => simp only [opD, hx x (by simp [Op.operands])]
  | extract x i => simp only [opD, hx x (by simp [Op.operands])]
  | pick c x y => simp only [opD, hx c (by simp [Op.operands]), hx x (by simp [Op.operands]), hx y (by simp [Op.operands])]
  | store t x y => simp only [opD, hx x (by simp [Op.operands]), hx y (by simp [Op.operands])]
  | makeSlice t x y => simp only [opD, hx x (by simp [Op.operands]), hx y (by simp [Op.operands])]
  | indexAddr t x y => simp only [opD, hx x (by simp [Op.operands]), hx y (by simp [Op.operands])]
  | index t x y => simp only [opD, hx x (by simp [Op.operands]), hx y (by simp [Op.operands])]
  | lookup t x y ok => simp only [opD, hx x (by simp [Op.operands]), hx y (by simp [Op.operands])]
  | mapUpdate t x y z => simp only [opD, hx x (by simp [Op.operands]), hx y (by simp [Op.operands]), hx z (by simp [Op.operands])]
  | _ => rfl
end

/-- one operation with its guard -/
def opG (P : Program) (wb : World) (Θ : List (Nat × TI)) (all : List Oper) (o : Oper) (env : List A) (H : List Ob) (K : List A → List Ob → Prop) : Prop :=
  match o.guard with
  | none => opD P wb Θ o.op env H fun v H' => putK env o.dst v fun env' => K env' H'
  | some (j, want) => dstK all j fun d => getK env d fun gv => match gv with
    | .d (.b t) => match t with
      | true => match want with
        | true => opD P wb Θ o.op env H fun v H' => putK env o.dst v fun env' => K env' H'
        | false => putK env o.dst (.tup []) fun env' => K env' H
      | false => match want with
        | false => opD P wb Θ o.op env H fun v H' => putK env o.dst v fun env' => K env' H'
        | true => putK env o.dst (.tup []) fun env' => K env' H
    | .tup _ => putK env o.dst (.tup []) fun env' => K env' H
    | _ => False

inductive Plan where
  | done
  | take (i : Nat) (p : Plan)
  | alt (i : Nat) (full : Bool) (p rest : Plan)
  | stop

def opAt (all : List Oper) (i : Nat) (K : Oper → Prop) : Prop :=
  match all, i with
  | [], _ => False
  | o :: _, 0 => K o
  | _ :: r, n + 1 => opAt r n K

noncomputable def runPlan (P : Program) (wb : World) (Θ : List (Nat × TI)) (all : List Oper) (K : List A → List Ob → Prop) (p : Plan) : List A → List Ob → Prop :=
  @Plan.rec (fun _ => List A → List Ob → Prop)
    (fun env H => K env H)
    (fun i _ ih env H => opAt all i fun o => opG P wb Θ all o env H fun env' H' => ih env' H')
    (fun i full _ _ ih ih' env H => (opAt all i fun o => opG P wb Θ all o env H fun env' H' => match full with
      | true => ih env' H'
      | false => (∃ E, H' = H ++ E) ∧ ih env' H') ∧ ih' env H)
    (fun _ _ => True) p

def deps (o : Oper) : List Nat := (o.after.toList.filter (Region.binds .any)).map (·.on)
def opnds (o : Oper) : List Nat := o.op.operands.toList.filterMap fun
  | .tmp t => some t
  | _ => none
def looks (all : List Oper) (o : Oper) : List Nat := opnds o ++ (match o.guard with
  | some (j, _) => ((all[j]?).bind (·.dst)).toList
  | none => [])
def conflB (all : List Oper) : Bool := (List.range all.length).all fun p => (List.range all.length).all fun r => match all[p]?, all[r]? with
  | some op, some or => (match or.dst with
    | some d => (!(looks all op).contains d || p == r || (deps op).contains r || (deps or).contains p) && (p == r || op.dst != some d)
    | none => true)
  | _, _ => true
def backB (all : List Oper) : Bool := (List.range all.length).all fun p => match all[p]? with
  | some o => (deps o).all fun i => Nat.blt i p
  | none => true
/-- k stands before o, by one edge or by more -/
def needs (all : List Oper) : Nat → Oper → Nat → Bool
  | 0, _, _ => false
  | n + 1, o, k => (deps o).contains k || (deps o).any fun i => match all[i]? with
    | some oi => needs all n oi k
    | none => false
def planB (all : List Oper) : Plan → List Nat → List Nat → Bool
  | .done, L, seen => seen.isEmpty && (List.range all.length).all fun i => L.contains i
  | .take i p, L, seen => seen.isEmpty && !L.contains i && (match all[i]? with
    | some o => isStill o.op && (deps o).all (L.contains ·) && planB all p (i :: L) []
    | none => false)
  | .alt i full p rest, L, seen => !L.contains i && (match all[i]? with
    | some o => (deps o).all (L.contains ·) && (!full || L.all fun k => match all[k]? with
      | some ok => !isStill ok.op || isPure ok.op || needs all 3 o k || needs all all.length o k
      | none => true) && planB all p (i :: L) [] && planB all rest L (i :: seen)
    | none => false)
  | .stop, L, seen => !seen.isEmpty && (List.range all.length).all fun i => L.contains i || seen.contains i || (match all[i]? with
    | some o => !(deps o).all (L.contains ·)
    | none => true)
def statB (all : List Oper) (p : Plan) : Bool := conflB all && backB all && planB all p [] []
end Go.DL
