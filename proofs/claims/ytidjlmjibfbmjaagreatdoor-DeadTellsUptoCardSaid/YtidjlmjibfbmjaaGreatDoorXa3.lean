/- An evaluator with truth values: one operation, soundness. -/
import Derived.Test.YtidjlmjibfbmjaaGreatDoorXa2
namespace Go.DL
namespace X
open Go.RowKit

noncomputable def natI (n : Int) (κ : Nat → Bool) : Bool := match n with
  | .ofNat m => κ m
  | .negSucc _ => false
theorem natI_out {n : Int} {κ : Nat → Bool} (e : natI n κ = true) : 0 ≤ n ∧ κ n.toNat = true := by
  cases n with
  | ofNat m => exact ⟨Int.natCast_nonneg m, e⟩
  | negSucc m => cases e
noncomputable def slX (es : Nat) (x : A) (lo hi mx : Option Int) (H : List Ob) (κ : A → List Ob → Bool) : Bool :=
  match mx with
  | some m => (match x with
    | .d (.sl _) => (match lo, hi with
      | none, some h => (eqI h 0).and ((eqI m 0).and (κ .es H))
      | some l, some h => (eqI l 0).and ((eqI h 0).and ((eqI m 0).and (κ .es H)))
      | _, _ => false)
    | .es => (match lo, hi with
      | none, some h => (eqI h 0).and ((eqI m 0).and (κ .es H))
      | some l, some h => (eqI l 0).and ((eqI h 0).and ((eqI m 0).and (κ .es H)))
      | _, _ => false)
    | _ => false)
  | none => (match x with
    | .d (.sl els) => (match lo, hi with
      | none, none => κ (.d (.sl els)) H
      | some l, none => natI l fun l => (els.all fun r => Nat.beq r.length es).and (dropX els l fun r => κ (.d (.sl r)) H)
      | none, some h => natI h fun h => takeX els h fun r => κ (.d (.sl r)) H
      | some l, some h => natI l fun l => natI h fun h => (els.all fun r => Nat.beq r.length es).and ((Nat.ble l h).and (takeX els h fun r => dropX r l fun r => κ (.d (.sl r)) H)))
    | .es => (match lo, hi with
      | none, none => κ .es H
      | some l, none => (eqI l 0).and (κ .es H)
      | none, some h => (eqI h 0).and (κ .es H)
      | some l, some h => (eqI l 0).and ((eqI h 0).and (κ .es H)))
    | .vs o g off => obX H o fun ob => match ob with
      | .vec g' es' els => (Nat.beq g g').and ((Nat.beq es' es).and (match lo, hi with
        | none, none => κ (.vs o g off) H
        | some l, none => natI l fun l => force (off + l) fun m => lenX els 0 fun n => (Nat.ble m n).and (κ (.vs o g m) H)
        | none, some h => natI h fun h => force (off + h) fun m => takeX els m fun r => setX H o (.vec (Nat.succ g) es r) fun H' => κ (.vs o (Nat.succ g) off) H'
        | _, _ => false))
      | _ => false
    | _ => false)
theorem eqI_out {a b : Int} (h : eqI a b = true) : a = b := by rw [eqI_eq] at h; exact of_decide_eq_true h
theorem all_len {es : Nat} {els : List (List D)} (h : (els.all fun r => Nat.beq r.length es) = true) : ∀ r ∈ els, r.length = es := by
  intro r hr
  rw [List.all_eq_true] at h
  exact Nat.eq_of_beq_eq_true (h r hr)
theorem slX_out {κ : A → List Ob → Bool} {K : A → List Ob → Prop} (h : ∀ x H, κ x H = true → K x H) {es : Nat} {x : A} {lo hi mx : Option Int} {H : List Ob} (e : slX es x lo hi mx H κ = true) : slD es x lo hi mx H K := by
  unfold slX at e
  unfold slD
  cases mx with
  | some m =>
    simp only at e ⊢
    split at e
    · split at e
      · simp only [Bool.and_eq_true] at e
        exact ⟨eqI_out e.1, eqI_out e.2.1, h _ _ e.2.2⟩
      · simp only [Bool.and_eq_true] at e
        exact ⟨eqI_out e.1, eqI_out e.2.1, eqI_out e.2.2.1, h _ _ e.2.2.2⟩
      · cases e
    · split at e
      · simp only [Bool.and_eq_true] at e
        exact ⟨eqI_out e.1, eqI_out e.2.1, h _ _ e.2.2⟩
      · simp only [Bool.and_eq_true] at e
        exact ⟨eqI_out e.1, eqI_out e.2.1, eqI_out e.2.2.1, h _ _ e.2.2.2⟩
      · cases e
    · cases e
  | none =>
    simp only at e ⊢
    split at e
    · split at e
      · exact h _ _ e
      · obtain ⟨h0, e⟩ := natI_out e
        simp only [Bool.and_eq_true] at e
        obtain ⟨h1, h2⟩ := dropX_eq _ _ _ e.2
        exact ⟨h0, by omega, all_len e.1, h _ _ h2⟩
      · obtain ⟨h0, e⟩ := natI_out e
        obtain ⟨h1, h2⟩ := takeX_eq _ _ _ e
        exact ⟨h0, by omega, h _ _ h2⟩
      · obtain ⟨h0, e⟩ := natI_out e
        obtain ⟨h1, e⟩ := natI_out e
        simp only [Bool.and_eq_true, Nat.ble_eq] at e
        obtain ⟨h2, h3⟩ := takeX_eq _ _ _ e.2.2
        obtain ⟨h4, h5⟩ := dropX_eq _ _ _ h3
        exact ⟨h0, by omega, by omega, all_len e.1, h _ _ h5⟩
    · split at e
      · exact h _ _ e
      · simp only [Bool.and_eq_true] at e
        exact ⟨eqI_out e.1, h _ _ e.2⟩
      · simp only [Bool.and_eq_true] at e
        exact ⟨eqI_out e.1, h _ _ e.2⟩
      · simp only [Bool.and_eq_true] at e
        exact ⟨eqI_out e.1, eqI_out e.2.1, h _ _ e.2.2⟩
    · refine obX_out (fun ob e => ?_) e
      split at e
      · simp only [Bool.and_eq_true, Nat.beq_eq] at e
        obtain ⟨e1, e2, e⟩ := e
        refine ⟨e1, e2, ?_⟩
        split at e
        · exact h _ _ e
        · obtain ⟨h0, e⟩ := natI_out e
          simp only [force_eq, lenX_eq, Nat.zero_add, Bool.and_eq_true, Nat.ble_eq] at e
          exact ⟨h0, _, rfl, e.1, h _ _ e.2⟩
        · obtain ⟨h0, e⟩ := natI_out e
          simp only [force_eq] at e
          obtain ⟨h1, h2⟩ := takeX_eq _ _ _ e
          rw [setX_eq] at h2
          exact ⟨h0, _, rfl, h1, setK_in (h _ _ h2)⟩
        · cases e
      · cases e
    · cases e
noncomputable def stX (x : A) (lo hi mx : Option Int) (κ : A → Bool) : Bool :=
  match mx with
  | some _ => false
  | none => (match x with
    | .d (.s b) => lenX b.data.toList 0 fun n => (match lo, hi with
      | none, none => κ (.d (.s b))
      | some l, none => natI l fun l => dropX b.data.toList l fun r => κ (.d (.s ⟨⟨r⟩⟩))
      | none, some h => natI h fun h => takeX b.data.toList h fun r => κ (.d (.s ⟨⟨r⟩⟩))
      | some l, some h => natI l fun l => natI h fun h => (Nat.ble l h).and (takeX b.data.toList h fun r => dropX r l fun r => κ (.d (.s ⟨⟨r⟩⟩))))
    | _ => false)
theorem extract_eq (b : ByteArray) (l h : Nat) : b.extract l h = ⟨⟨(b.data.toList.take h).drop l⟩⟩ := by
  apply ByteArray.ext
  apply Array.toList_inj.1
  rw [ByteArray.data_extract, Array.toList_extract, List.extract_eq_take_drop, List.drop_take]
theorem stX_out {κ : A → Bool} {K : A → Prop} (h : ∀ x, κ x = true → K x) {x : A} {lo hi mx : Option Int} (e : stX x lo hi mx κ = true) : stD x lo hi mx K := by
  unfold stX at e
  unfold stD
  cases mx with
  | some _ => cases e
  | none =>
    simp only at e ⊢
    split at e
    · rename_i b
      rw [lenX_eq] at e
      have hs : b.data.toList.length = b.size := rfl
      split at e
      · have : b.extract 0 b.size = b := by
          rw [extract_eq, ← hs, List.take_length, List.drop_zero]
        show K (.d (.s (b.extract 0 b.size)))
        rw [this]
        exact h _ e
      · obtain ⟨h0, e⟩ := natI_out e
        obtain ⟨h1, h2⟩ := dropX_eq _ _ _ e
        refine ⟨h0, by omega, ?_⟩
        rw [extract_eq, ← hs, List.take_length]
        exact h _ h2
      · obtain ⟨h0, e⟩ := natI_out e
        obtain ⟨h1, h2⟩ := takeX_eq _ _ _ e
        refine ⟨h0, by omega, ?_⟩
        rw [extract_eq, List.drop_zero]
        exact h _ h2
      · obtain ⟨h0, e⟩ := natI_out e
        obtain ⟨h1, e⟩ := natI_out e
        simp only [Bool.and_eq_true, Nat.ble_eq] at e
        obtain ⟨h2, h3⟩ := takeX_eq _ _ _ e.2
        obtain ⟨h4, h5⟩ := dropX_eq _ _ _ h3
        refine ⟨h0, by omega, by omega, ?_⟩
        rw [extract_eq]
        exact h _ h5
    · cases e

noncomputable def clearX (z : List A) : Nat → List (List A) → (List (List A) → Bool) → Bool
  | _, [], κ => κ []
  | 0, _ :: xs, κ => clearX z 0 xs fun r => κ (z :: r)
  | n + 1, x :: xs, κ => clearX z n xs fun r => κ (x :: r)
theorem clearX_eq (z : List A) : ∀ (n : Nat) (l : List (List A)) (κ : List (List A) → Bool), clearX z n l κ = κ (clearN z n l)
  | n, [], κ => by cases n <;> rfl
  | 0, _ :: xs, κ => clearX_eq z 0 xs _
  | n + 1, _ :: xs, κ => clearX_eq z n xs _
abbrev CX := Nat → List A → List Ob → (A → List Ob → Bool) → Bool

noncomputable def opX (call : CX) (Θ : List (Nat × TI)) (o : Op) (env : List A) (H : List Ob) (κ : A → List Ob → Bool) : Bool :=
  match o with
  | .move x => evX env x fun v => κ v H
  | .assign x => evX env x fun v => κ v H
  | .pick c x y => evX env c fun v => match v with
    | .d (.b t) => match t with
      | true => evX env x fun v => κ v H
      | false => evX env y fun v => κ v H
    | _ => false
  | .alloc t => tiX Θ t fun ti => lenX H 0 fun n => snocX H (.box ti.zero) fun H' => κ (.ptr n 0) H'
  | .box _ x => evX env x fun v => cellsX v fun cs => lenX H 0 fun n => snocX H (.box cs) fun H' => κ (.ptr n 0) H'
  | .build t parts => tiX Θ t fun ti => match ti.k with
    | .struct fs => fillX env (fun f κ => fieldX fs f fun off ft => tiX Θ ft fun tf => κ off tf.size) parts.toList ti.zero fun cs => κ (.agg cs) H
    | .arr _ e => tiX Θ e fun te => fillX env (fun i κ => force (i * te.size) fun off => κ off te.size) parts.toList ti.zero fun cs => κ (.agg cs) H
    | _ => false
  | .buildSlice t n parts => tiX Θ t fun ti => match ti.k with
    | .slice e => tiX Θ e fun te => match Nat.ble 1 te.size && Nat.ble (n * te.size) 16777216 with
      | true => (match n with
        | 0 => (match parts.toList with
          | [] => κ .es H
          | _ :: _ => false)
        | n + 1 => repX te.zero (n + 1) fun flat => fillX env (fun i κ => force (i * te.size) fun off => κ off te.size) parts.toList flat fun cs =>
            allOneX cs (chunkX te.size (n + 1) cs fun rows =>
              lenX H 0 fun k => snocX H (.vec 0 te.size rows) fun H2 => κ (.vs k 0 0) H2))
      | false => false
    | _ => false
  | .load t x => tiX Θ t fun ti => evX env x fun v => match v with
    | .ptr o off => obX H o fun ob => match ob with
      | .box cs => ldAX ti cs off fun r => κ r H
      | _ => false
    | .fp row => ldDX ti row fun r => κ r H
    | .vp o g idx off => obX H o fun ob => match ob with
      | .vec g' _ els => (Nat.beq g g').and (atX els idx fun row => ldAX ti row off fun r => κ r H)
      | _ => false
    | _ => false
  | .store t x y => tiX Θ t fun ti => evX env x fun p => evX env y fun v => cellsX v fun vc => lenIsX vc ti.size (match p with
    | .ptr o off => allOneX vc (obX H o fun ob => match ob with
      | .box cs => wrX cs off vc fun cs' => setX H o (.box cs') fun H' => κ .undef H'
      | _ => false)
    | .vp o g idx off => allOneX vc (obX H o fun ob => match ob with
      | .vec g' es els => (Nat.beq g g').and (match Nat.beq off 0 && Nat.beq ti.size es with
        | true => setX els idx vc fun els' => setX H o (.vec g es els') fun H' => κ .undef H'
        | false => atX els idx fun row => wrX row off vc fun row' => setX els idx row' fun els' => setX H o (.vec g es els') fun H' => κ .undef H')
      | _ => false)
    | _ => false)
  | .nilCheck x => evX env x fun v => match v with
    | .ptr o off => obX H o fun ob => match ob with
      | .box _ => κ (.ptr o off) H
      | _ => false
    | .fp row => κ (.fp row) H
    | .vp o g i off => obX H o fun ob => match ob with
      | .vec g' _ _ => (Nat.beq g g').and (κ (.vp o g i off) H)
      | _ => false
    | .fn f fs cs => κ (.fn f fs cs) H
    | _ => false
  | .binOp op t x y _ => evX env x fun a => match y with
    | .const (.slice none 0 0) => tiX Θ t fun ti => match ti.k with
      | .slice _ => nilX op a H fun v => κ v H
      | _ => false
    | y => evX env y fun b => binX Θ t op a b H fun v => κ v H
  | .unOp op _ x => evX env x fun a => match op, a with
    | .not, .d (.b t) => forceB t fun t => κ (.d (.b (!t))) H
    | .neg, .d (.i k n) => forceI (k.wrap (0 - n)) fun c => κ (.d (.i k c)) H
    | _, _ => false
  | .convert src dst x => tiX Θ src fun _ => tiX Θ dst fun ti => evX env x fun a => match ti.k, a with
    | .int k', .d (.i _ n) => forceI (k'.wrap n) fun c => κ (.d (.i k' c)) H
    | _, _ => false
  | .makeFunc (.func f) fs cs => evsX env fs.toList fun x => evsX env cs.toList fun y => κ (.fn f x y) H
  | .makeMap t r => match r with
    | none => tiX Θ t fun ti => match ti.k with
      | .map kt _ => tiX Θ kt fun tk => match tk.k with
        | .int k => lenX H 0 fun n => snocX H (.map k []) fun H' => κ (.mp n) H'
        | _ => false
      | _ => false
    | _ => false
  | .makeSlice t l c => tiX Θ t fun ti => match ti.k with
    | .slice e => tiX Θ e fun te => evX env l fun lv => intgX lv fun ln => evX env c fun cv => intgX cv fun cn =>
        allOneX te.zero (natI ln fun m => natI cn fun k => (Nat.ble m k).and ((Nat.ble (k * te.bytes) 140737488355328).and ((Nat.ble k maxLen).and ((Nat.ble 1 te.size).and
          (lenX H 0 fun n => repX [te.zero] m fun els => snocX H (.vec 0 te.size els) fun H' => κ (.vs n 0 0) H')))))
    | _ => false
  | .slice t x lo hi mx => tiX Θ t fun ti => evX env x fun v => optX env lo fun l => optX env hi fun h => optX env mx fun m => match ti.k with
    | .slice e => tiX Θ e fun te => slX te.size v l h m H κ
    | .str => stX v l h m fun r => κ r H
    | _ => false
  | .fieldAddr t x f => tiX Θ t fun ti => evX env x fun v => match ti.k with
    | .struct fs => fieldX fs f fun fo ft => tiX Θ ft fun tf => match Nat.ble 1 tf.size with
      | true => (match v with
        | .ptr o off => obX H o fun ob => match ob with
          | .box _ => force (off + fo) fun q => κ (.ptr o q) H
          | _ => false
        | .fp row => dropX row fo fun r => κ (.fp r) H
        | .vp o g i off => obX H o fun ob => match ob with
          | .vec g' _ _ => (Nat.beq g g').and (force (off + fo) fun q => κ (.vp o g i q) H)
          | _ => false
        | _ => false)
      | false => false
    | _ => false
  | .field t x f => tiX Θ t fun ti => evX env x fun v => match ti.k with
    | .struct fs => fieldX fs f fun fo ft => tiX Θ ft fun tf => (match v with
      | .agg cs => ldAX tf cs fo fun r => κ r H
      | _ => false)
    | _ => false
  | .indexAddr t x ix => tiX Θ t fun ti => match ti.k with
    | .slice e => tiX Θ e fun te => evX env x fun v => evX env ix fun iv => intgX iv fun i => (match v with
      | .d (.sl els) => natI i fun i => atX els i fun row => lenIsX row te.size (κ (.fp row) H)
      | .vs o g off => obX H o fun ob => match ob with
        | .vec g' es els => (Nat.beq g g').and ((Nat.beq es te.size).and (natI i fun i => force (off + i) fun m => atX els m fun _ => κ (.vp o g m 0) H))
        | _ => false
      | _ => false)
    | .arr n e => tiX Θ e fun te => evX env x fun v => evX env ix fun iv => intgX iv fun i => (match v with
      | .ptr o off => obX H o fun ob => match ob with
        | .box _ => natI i fun i => (Nat.blt i n).and (force (off + i * te.size) fun q => κ (.ptr o q) H)
        | _ => false
      | .fp row => natI i fun i => (Nat.blt i n).and (force (i * te.size) fun q => dropX row q fun r => κ (.fp r) H)
      | _ => false)
    | _ => false
  | .index t x ix => tiX Θ t fun ti => evX env x fun v => evX env ix fun iv => intgX iv fun i => match ti.k with
    | .arr n e => tiX Θ e fun te => (match v with
      | .agg cs => natI i fun i => (Nat.blt i n).and (force (i * te.size) fun q => ldAX te cs q fun r => κ r H)
      | _ => false)
    | .str => (match v with
      | .d (.s b) => natI i fun i => atX b.data.toList i fun c => force c.toNat fun c => κ (.d (.i .u8 (.ofNat c))) H
      | _ => false)
    | _ => false
  | .lookup t x ix ok => tiX Θ t fun ti => match ti.k with
    | .map kt e => tiX Θ kt fun tk => match tk.k with
      | .int _ => tiX Θ e fun te => evX env x fun v => evX env ix fun iv => (match v with
        | .mp o => obX H o fun ob => match ob with
          | .map kk es => keyX kk iv fun k => mapGetX es k fun r => lkX te ok r fun y => κ y H
          | _ => false
        | _ => false)
      | _ => false
    | _ => false
  | .mapUpdate t x k y => tiX Θ t fun ti => match ti.k with
    | .map kt _ => tiX Θ kt fun tk => match tk.k with
      | .int _ => evX env x fun v => evX env k fun kv => evX env y fun yv => (match v with
        | .mp o => obX H o fun ob => match ob with
          | .map kk es => keyX kk kv fun n => mapPutX es n yv fun es' => setX H o (.map kk es') fun H' => κ .undef H'
          | _ => false
        | _ => false)
      | _ => false
    | _ => false
  | .extract x i => evX env x fun v => match v with
    | .tup vs => dropX vs i fun l => match l with
      | r :: _ => κ r H
      | [] => false
    | _ => false
  | .call c => match c.callee with
    | .builtin .len => (match c.args.toList, c.argTypes.toList with
      | [x], [t] => tiX Θ t fun ti => evX env x fun v => lnX ti.k v H fun r => κ r H
      | _, _ => false)
    | .builtin .append => (match c.args.toList, c.argTypes.toList with
      | [x, y], [t, t'] => (match Nat.beq t t' with
        | true => tiX Θ t fun ti => match ti.k with
          | .slice e => tiX Θ e fun te => (match Nat.ble 1 te.bytes && Nat.ble 1 te.size with
            | true => evX env x fun a => evX env y fun b => apX te a b H κ
            | false => false)
          | _ => false
        | false => false)
      | _, _ => false)
    | .builtin .delete => (match c.args.toList, c.argTypes.toList with
      | [x, y], t :: _ => tiX Θ t fun ti => match ti.k with
        | .map kt _ => tiX Θ kt fun tk => match tk.k with
          | .int _ => evX env x fun v => evX env y fun kv => (match v with
            | .mp o => obX H o fun ob => match ob with
              | .map kk es => keyX kk kv fun k => mapDelX es k fun es' => setX H o (.map kk es') fun H' => κ (.tup []) H'
              | _ => false
            | _ => false)
          | _ => false
        | _ => false
      | _, _ => false)
    | .builtin .clear => (match c.args.toList, c.argTypes.toList with
      | [x], [t] => tiX Θ t fun ti => match ti.k with
        | .slice e => tiX Θ e fun te => evX env x fun v => (match v with
          | .es => κ (.tup []) H
          | .vs o g off => allOneX te.zero (obX H o fun ob => match ob with
            | .vec g' es els => (Nat.beq g g').and ((Nat.beq es te.size).and (clearX te.zero off els fun els' => setX H o (.vec g es els') fun H' => κ (.tup []) H'))
            | _ => false)
          | _ => false)
        | _ => false
      | _, _ => false)
    | .value f => evX env f fun fv => evsX env c.args.toList fun xs => match fv with
      | .fn g fs cs => appX xs cs fun r => appX fs r fun ys => call g ys H κ
      | _ => false
    | _ => false
  | _ => false

theorem lenH {H : List Ob} {κ : Nat → Bool} {K : Nat → Prop} (h : ∀ x, κ x = true → K x) (e : lenX H 0 κ = true) : lenK H 0 K := by
  rw [lenX_eq] at e
  exact lenK_in (h _ e)
theorem snocH {H : List Ob} {ob : Ob} {κ : List Ob → Bool} {K : List Ob → Prop} (h : ∀ x, κ x = true → K x) (e : snocX H ob κ = true) : snocK H ob K := by
  rw [snocX_eq] at e
  exact snocK_in (h _ e)
theorem setH {H : List Ob} {o : Nat} {ob : Ob} {κ : List Ob → Bool} {K : List Ob → Prop} (h : ∀ x, κ x = true → K x) (e : setX H o ob κ = true) : setK H o ob K := by
  rw [setX_eq] at e
  exact setK_in (h _ e)
theorem forceH {n : Nat} {κ : Nat → Bool} {K : Nat → Prop} (h : ∀ x, κ x = true → K x) (e : force n κ = true) : nk n K := by
  rw [force_eq] at e
  exact nk_in (h _ e)
theorem repX_one {α : Type} (x : α) : ∀ (n : Nat) (κ : List α → Bool), repX [x] n κ = κ (List.replicate n x)
  | 0, _ => rfl
  | n + 1, κ => by
    rw [repX, repX_one x n]
    rw [appX_eq]
    rfl
theorem byteAt {b : ByteArray} {i : Nat} {c : UInt8} (h1 : b.data.toList[i]? = some c) : b[i]? = some c := by
  rw [Array.getElem?_toList] at h1
  obtain ⟨hlt, h1⟩ := Array.getElem?_eq_some_iff.1 h1
  have hlt' : i < b.size := hlt
  rw [getElem?_pos b i hlt']
  exact congrArg some h1
theorem opX_out {P : Program} {wb : World} {call : CX} (hc : ∀ g ys H κ, call g ys H κ = true → CallOk P wb g ys H fun r H' => κ r H' = true) {Θ : List (Nat × TI)} {κ : A → List Ob → Bool} {K : A → List Ob → Prop}
    (h : ∀ x H, κ x H = true → K x H) {o : Op} {env : List A} {H : List Ob} (e : opX call Θ o env H κ = true) : opD P wb Θ o env H K := by
  cases o <;> first
    | (simp [opX] at e; done)
    | (unfold opX at e)
  case move => exact evX_out (fun _ e => h _ _ e) e
  case assign => exact evX_out (fun _ e => h _ _ e) e
  case pick =>
    refine evX_out (fun v e => ?_) e
    split at e
    · rename_i t
      cases t with
      | true => exact evX_out (fun _ e => h _ _ e) e
      | false => exact evX_out (fun _ e => h _ _ e) e
    · cases e
  case alloc => exact tiX_out (fun _ e => lenH (fun _ e => snocH (fun _ e => h _ _ e) e) e) e
  case box => exact evX_out (fun _ e => cellsX_out (fun _ e => lenH (fun _ e => snocH (fun _ e => h _ _ e) e) e) e) e
  case build =>
    refine tiX_out (fun ti e => ?_) e
    split at e
    · rename_i hk
      simp only [hk]
      refine fillX_out (fun n κ K h e => fieldX_out (fun _ _ e => tiX_out (fun _ e => h _ _ e) e) e) (fun _ e => h _ _ e) e
    · rename_i hk
      simp only [hk]
      refine tiX_out (fun te e => fillX_out (fun n κ K h e => forceH (fun _ e => h _ _ e) e) (fun _ e => h _ _ e) e) e
    · cases e
  case buildSlice t n parts =>
    refine tiX_out (fun ti e => ?_) e
    split at e
    · rename_i hk
      simp only [hk]
      refine tiX_out (fun te e => ?_) e
      split at e
      · rename_i hb
        simp only [hb]
        cases n with
        | zero =>
          simp only at e ⊢
          split at e
          · rename_i hp
            simp only [hp]
            exact h _ _ e
          · cases e
        | succ n =>
          exact repX_out (fun _ e => fillX_out (fun n κ K h e => forceH (fun _ e => h _ _ e) e) (fun _ e => allOneX_out (fun e => chunkX_out (fun _ e => lenH (fun _ e => snocH (fun _ e => h _ _ e) e) e) e) e) e) e
      · cases e
    · cases e
  case load =>
    refine tiX_out (fun ti e => evX_out (fun v e => ?_) e) e
    split at e
    · refine obX_out (fun ob e => ?_) e
      split at e
      · exact ldAX_out (fun _ e => h _ _ e) e
      · cases e
    · exact ldDX_out (fun _ e => h _ _ e) e
    · refine obX_out (fun ob e => ?_) e
      split at e
      · simp only [Bool.and_eq_true, Nat.beq_eq] at e
        obtain ⟨row, h1, h2⟩ := atX_eq _ _ _ e.2
        exact ⟨e.1, row, h1, ldAX_out (fun _ e => h _ _ e) h2⟩
      · cases e
    · cases e
  case store =>
    refine tiX_out (fun ti e => evX_out (fun p e => evX_out (fun v e => cellsX_out (fun vc e => lenIsX_out (fun e => ?_) e) e) e) e) e
    split at e
    · refine allOneX_out (fun e => obX_out (fun ob e => ?_) e) e
      split at e
      · exact wrX_out (fun _ e => setH (fun _ e => h _ _ e) e) e
      · cases e
    · refine allOneX_out (fun e => obX_out (fun ob e => ?_) e) e
      split at e
      · simp only [Bool.and_eq_true, Nat.beq_eq] at e
        refine ⟨e.1, ?_⟩
        have e2 := e.2
        split at e2
        · rename_i hb
          simp only [hb]
          rw [setX_eq] at e2
          exact setH (fun _ e => h _ _ e) e2
        · rename_i hb
          simp only [hb]
          obtain ⟨row, h1, h2⟩ := atX_eq _ _ _ e2
          refine ⟨row, h1, wrX_out (fun _ e => ?_) h2⟩
          rw [setX_eq] at e
          exact setH (fun _ e => h _ _ e) e
      · cases e
    · cases e
  case nilCheck =>
    refine evX_out (fun v e => ?_) e
    split at e
    · refine obX_out (fun ob e => ?_) e
      split at e
      · exact h _ _ e
      · cases e
    · exact h _ _ e
    · refine obX_out (fun ob e => ?_) e
      split at e
      · simp only [Bool.and_eq_true, Nat.beq_eq] at e
        exact ⟨e.1, h _ _ e.2⟩
      · cases e
    · exact h _ _ e
    · cases e
  case binOp op t x y t' =>
    refine evX_out (fun a e => ?_) e
    split at e
    · refine tiX_out (fun ti e => ?_) e
      split at e
      · rename_i hk
        simp only [hk]
        exact nilX_out (fun _ e => h _ _ e) e
      · cases e
    · rename_i hy
      split
      · exact absurd rfl hy
      · exact evX_out (fun _ e => binX_out (fun _ e => h _ _ e) e) e
  case unOp =>
    refine evX_out (fun a e => ?_) e
    split at e
    · rw [forceB_eq] at e
      exact h _ _ e
    · rw [forceI_eq] at e
      exact ⟨_, rfl, h _ _ e⟩
    · cases e
  case convert =>
    refine tiX_out (fun _ e => tiX_out (fun ti e => evX_out (fun a e => ?_) e) e) e
    split at e
    · rename_i hk
      simp only [hk]
      rw [forceI_eq] at e
      exact ⟨_, rfl, h _ _ e⟩
    · cases e
  case makeFunc fn fs cs =>
    cases fn with
    | func f => exact evsX_out (fun _ e => evsX_out (fun _ e => h _ _ e) e) e
    | _ => simp [opX] at e
  case makeMap t r =>
    cases r with
    | none =>
      refine tiX_out (fun ti e => ?_) e
      split at e
      · rename_i hk
        simp only [hk]
        refine tiX_out (fun tk e => ?_) e
        split at e
        · rename_i hk
          simp only [hk]
          exact lenH (fun _ e => snocH (fun _ e => h _ _ e) e) e
        · cases e
      · cases e
    | some r => simp [opX] at e
  case makeSlice =>
    refine tiX_out (fun ti e => ?_) e
    split at e
    · rename_i hk
      simp only [hk]
      refine tiX_out (fun te e => evX_out (fun lv e => intgX_out (fun ln e => evX_out (fun cv e => intgX_out (fun cn e => allOneX_out (fun e => ?_) e) e) e) e) e) e
      obtain ⟨h0, e⟩ := natI_out e
      obtain ⟨h1, e⟩ := natI_out e
      simp only [Bool.and_eq_true, Nat.ble_eq] at e
      obtain ⟨e1, e2, e3, e4, e5⟩ := e
      refine ⟨ln.toNat, cn.toNat, (Int.toNat_of_nonneg h0).symm, (Int.toNat_of_nonneg h1).symm, e1, e2, e3, e4, lenH (fun _ e => ?_) e5⟩
      rw [repX_one] at e
      exact snocH (fun _ e => h _ _ e) e
    · cases e
  case slice =>
    refine tiX_out (fun ti e => evX_out (fun v e => optX_out (fun l e => optX_out (fun hi e => optX_out (fun m e => ?_) e) e) e) e) e
    split at e
    · rename_i hk
      simp only [hk]
      exact tiX_out (fun te e => slX_out h e) e
    · rename_i hk
      simp only [hk]
      exact stX_out (fun _ e => h _ _ e) e
    · cases e
  case fieldAddr =>
    refine tiX_out (fun ti e => evX_out (fun v e => ?_) e) e
    split at e
    · rename_i hk
      simp only [hk]
      refine fieldX_out (fun fo ft e => tiX_out (fun tf e => ?_) e) e
      split at e
      · rename_i hb
        simp only [hb]
        split at e
        · refine obX_out (fun ob e => ?_) e
          split at e
          · exact forceH (fun _ e => h _ _ e) e
          · cases e
        · exact dropX_out (fun _ e => h _ _ e) e
        · refine obX_out (fun ob e => ?_) e
          split at e
          · simp only [Bool.and_eq_true, Nat.beq_eq] at e
            exact ⟨e.1, forceH (fun _ e => h _ _ e) e.2⟩
          · cases e
        · cases e
      · cases e
    · cases e
  case field =>
    refine tiX_out (fun ti e => evX_out (fun v e => ?_) e) e
    split at e
    · rename_i hk
      simp only [hk]
      refine fieldX_out (fun fo ft e => tiX_out (fun tf e => ?_) e) e
      split at e
      · exact ldAX_out (fun _ e => h _ _ e) e
      · cases e
    · cases e
  case indexAddr =>
    refine tiX_out (fun ti e => ?_) e
    split at e
    · rename_i hk
      simp only [hk]
      refine tiX_out (fun te e => evX_out (fun v e => evX_out (fun iv e => intgX_out (fun i e => ?_) e) e) e) e
      split at e
      · obtain ⟨h0, e⟩ := natI_out e
        obtain ⟨row, h1, h2⟩ := atX_eq _ _ _ e
        obtain ⟨h3, h4⟩ := lenIsX_eq h2
        exact ⟨h0, row, h1, h3, h _ _ h4⟩
      · refine obX_out (fun ob e => ?_) e
        split at e
        · simp only [Bool.and_eq_true, Nat.beq_eq] at e
          obtain ⟨e1, e2, e3⟩ := e
          obtain ⟨h0, e3⟩ := natI_out e3
          rw [force_eq] at e3
          obtain ⟨x, h1, h2⟩ := atX_eq _ _ _ e3
          exact ⟨e1, e2, h0, _, rfl, (List.getElem?_eq_some_iff.1 h1).1, h _ _ h2⟩
        · cases e
      · cases e
    · rename_i hk
      simp only [hk]
      refine tiX_out (fun te e => evX_out (fun v e => evX_out (fun iv e => intgX_out (fun i e => ?_) e) e) e) e
      split at e
      · refine obX_out (fun ob e => ?_) e
        split at e
        · obtain ⟨h0, e⟩ := natI_out e
          rw [Bool.and_eq_true] at e
          have := Nat.le_of_ble_eq_true e.1
          exact ⟨h0, by omega, forceH (fun _ e => h _ _ e) e.2⟩
        · cases e
      · obtain ⟨h0, e⟩ := natI_out e
        rw [Bool.and_eq_true] at e
        have := Nat.le_of_ble_eq_true e.1
        exact ⟨h0, by omega, forceH (fun _ e => dropX_out (fun _ e => h _ _ e) e) e.2⟩
      · cases e
    · cases e
  case index =>
    refine tiX_out (fun ti e => evX_out (fun v e => evX_out (fun iv e => intgX_out (fun i e => ?_) e) e) e) e
    split at e
    · rename_i hk
      simp only [hk]
      refine tiX_out (fun te e => ?_) e
      split at e
      · obtain ⟨h0, e⟩ := natI_out e
        rw [Bool.and_eq_true] at e
        have := Nat.le_of_ble_eq_true e.1
        exact ⟨h0, by omega, forceH (fun _ e => ldAX_out (fun _ e => h _ _ e) e) e.2⟩
      · cases e
    · rename_i hk
      simp only [hk]
      split at e
      · obtain ⟨h0, e⟩ := natI_out e
        obtain ⟨c, h1, h2⟩ := atX_eq _ _ _ e
        rw [force_eq] at h2
        exact ⟨h0, c, byteAt h1, h _ _ h2⟩
      · cases e
    · cases e
  case lookup =>
    refine tiX_out (fun ti e => ?_) e
    split at e
    · rename_i hk
      simp only [hk]
      refine tiX_out (fun tk e => ?_) e
      split at e
      · rename_i hk
        simp only [hk]
        refine tiX_out (fun te e => evX_out (fun v e => evX_out (fun iv e => ?_) e) e) e
        split at e
        · refine obX_out (fun ob e => ?_) e
          split at e
          · refine keyX_out (fun k e => ?_) e
            rw [mapGetX_eq] at e
            exact ⟨_, rfl, lkX_out (fun _ e => h _ _ e) e⟩
          · cases e
        · cases e
      · cases e
    · cases e
  case mapUpdate =>
    refine tiX_out (fun ti e => ?_) e
    split at e
    · rename_i hk
      simp only [hk]
      refine tiX_out (fun tk e => ?_) e
      split at e
      · rename_i hk
        simp only [hk]
        refine evX_out (fun v e => evX_out (fun kv e => evX_out (fun yv e => ?_) e) e) e
        split at e
        · refine obX_out (fun ob e => ?_) e
          split at e
          · refine keyX_out (fun k e => ?_) e
            rw [mapPutX_eq] at e
            exact setH (fun _ e => h _ _ e) e
          · cases e
        · cases e
      · cases e
    · cases e
  case extract =>
    refine evX_out (fun v e => ?_) e
    split at e
    · refine dropX_out (fun l e => ?_) e
      split at e
      · exact h _ _ e
      · cases e
    · cases e
  case call c =>
    simp only [opX] at e
    simp only [opD]
    split at e
    · rename_i hcc
      simp only [hcc]
      split at e
      · rename_i ha hb
        simp only [ha, hb]
        exact tiX_out (fun ti e => evX_out (fun v e => lnX_out (fun _ e => h _ _ e) e) e) e
      · cases e
    · rename_i hcc
      simp only [hcc]
      split at e
      · rename_i ha hb
        simp only [ha, hb]
        split at e
        · rename_i ht
          simp only [ht]
          refine tiX_out (fun ti e => ?_) e
          split at e
          · rename_i hk
            simp only [hk]
            refine tiX_out (fun te e => ?_) e
            split at e
            · rename_i hb
              simp only [hb]
              exact evX_out (fun a e => evX_out (fun b e => apX_out h e) e) e
            · cases e
          · cases e
        · cases e
      · cases e
    · rename_i hcc
      simp only [hcc]
      split at e
      · rename_i ha hb
        simp only [ha, hb]
        refine tiX_out (fun ti e => ?_) e
        split at e
        · rename_i hk
          simp only [hk]
          refine tiX_out (fun tk e => ?_) e
          split at e
          · rename_i hk
            simp only [hk]
            refine evX_out (fun v e => evX_out (fun kv e => ?_) e) e
            split at e
            · refine obX_out (fun ob e => ?_) e
              split at e
              · refine keyX_out (fun k e => ?_) e
                rw [mapDelX_eq] at e
                exact setH (fun _ e => h _ _ e) e
              · cases e
            · cases e
          · cases e
        · cases e
      · cases e
    · rename_i hcc
      simp only [hcc]
      split at e
      · rename_i ha hb
        simp only [ha, hb]
        refine tiX_out (fun ti e => ?_) e
        split at e
        · rename_i hk
          simp only [hk]
          refine tiX_out (fun te e => evX_out (fun v e => ?_) e) e
          split at e
          · exact h _ _ e
          · refine allOneX_out (fun e => obX_out (fun ob e => ?_) e) e
            split at e
            · simp only [Bool.and_eq_true, Nat.beq_eq, clearX_eq] at e
              exact ⟨e.1, e.2.1, setH (fun _ e => h _ _ e) e.2.2⟩
            · cases e
          · cases e
        · cases e
      · cases e
    · rename_i hcc
      simp only [hcc]
      refine evX_out (fun fv e => evsX_out (fun xs e => ?_) e) e
      split at e
      · rw [appX_eq, appX_eq] at e
        exact (hc _ _ _ _ e).mono fun r H' hr => h _ _ hr
      · cases e
    · cases e
end X
end Go.DL
