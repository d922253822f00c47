/- Soundness of the evaluator's words. -/
import Derived.Test.YtidjlmjibfbmjaaGreatDoorDl2
namespace Go.DL
open Go.RowKit

theorem nk_out {n : Nat} {K : Nat → Prop} (h : nk n K) : K n := by
  unfold nk at h
  split at h <;> exact h
theorem setK_out {α : Type} : ∀ (l : List α) (n : Nat) (v : α) (K : List α → Prop), setK l n v K → K (l.set n v)
  | [], _, _, _, h => by simpa [setK] using h
  | _ :: xs, 0, v, K, h => by simpa [setK] using h
  | x :: xs, n + 1, v, K, h => by
    simp only [setK] at h
    simpa using setK_out xs n v _ h
theorem snocK_out {α : Type} : ∀ (l : List α) (v : α) (K : List α → Prop), snocK l v K → K (l ++ [v])
  | [], _, _, h => by simpa [snocK] using h
  | x :: xs, v, K, h => by
    simp only [snocK] at h
    simpa using snocK_out xs v _ h
theorem lenK_out : ∀ (l : List Ob) (n : Nat) (K : Nat → Prop), lenK l n K → K (n + l.length)
  | [], n, _, h => by simpa using nk_out h
  | x :: xs, n, K, h => by
    simp only [lenK] at h
    have := lenK_out xs (n + 1) K h
    rw [List.length_cons, show n + (xs.length + 1) = n + 1 + xs.length by omega]
    exact this
theorem takeK_out {α : Type} : ∀ (l : List α) (n : Nat) (K : List α → Prop), takeK l n K → n ≤ l.length ∧ K (l.take n)
  | _, 0, _, h => by simpa [takeK] using h
  | [], n + 1, _, h => h.elim
  | x :: xs, n + 1, K, h => by
    simp only [takeK] at h
    have := takeK_out xs n _ h
    simpa using this
theorem dropK_out {α : Type} : ∀ (l : List α) (n : Nat) (K : List α → Prop), dropK l n K → n ≤ l.length ∧ K (l.drop n)
  | _, 0, _, h => by simpa [dropK] using h
  | [], n + 1, _, h => h.elim
  | x :: xs, n + 1, K, h => by
    simp only [dropK] at h
    have := dropK_out xs n _ h
    simpa using this
theorem overK_out {α : Type} : ∀ (l vs : List α) (K : List α → Prop), overK l vs K → vs.length ≤ l.length ∧ K (vs ++ l.drop vs.length)
  | _, [], _, h => by simpa [overK] using h
  | [], _ :: _, _, h => h.elim
  | x :: xs, v :: vs, K, h => by
    simp only [overK] at h
    have := overK_out xs vs _ h
    simpa using this
theorem wrK_out {α : Type} : ∀ (l : List α) (n : Nat) (vs : List α) (K : List α → Prop), wrK l n vs K → n + vs.length ≤ l.length ∧ K (l.take n ++ vs ++ l.drop (n + vs.length))
  | l, 0, vs, K, h => by
    have h' : overK l vs K := by cases l <;> simpa [wrK] using h
    simpa using overK_out l vs K h'
  | [], n + 1, _, _, h => h.elim
  | x :: xs, n + 1, vs, K, h => by
    simp only [wrK] at h
    have := wrK_out xs n vs _ h
    rw [show n + 1 + vs.length = n + vs.length + 1 by omega]
    simpa using this
theorem getO_out : ∀ (l : List Ob) (n : Nat) (K : Ob → Prop), getO l n K → ∃ ob, l[n]? = some ob ∧ K ob
  | [], _, _, h => h.elim
  | x :: xs, 0, K, h => ⟨x, by simp, h⟩
  | x :: xs, n + 1, K, h => by
    simp only [getO] at h
    simpa using getO_out xs n K h
theorem lenIs_out {α : Type} : ∀ (l : List α) (n : Nat) (p : Prop), lenIs l n p → l.length = n ∧ p
  | [], 0, _, h => ⟨rfl, h⟩
  | [], n + 1, _, h => h.elim
  | _ :: _, 0, _, h => h.elim
  | x :: xs, n + 1, p, h => by
    simp only [lenIs] at h
    have := lenIs_out xs n p h
    exact ⟨by simp [this.1], this.2⟩
theorem fieldK_out : ∀ (fs : List (Nat × Nat)) (f : Nat) (K : Nat → Nat → Prop), fieldK fs f K → ∃ p, fs[f]? = some p ∧ K p.1 p.2
  | [], _, _, h => by cases h
  | x :: xs, 0, K, h => ⟨x, by simp, h⟩
  | x :: xs, n + 1, K, h => by
    simp only [fieldK] at h
    simpa using fieldK_out xs n K h
theorem tiK_out : ∀ (Θ : List (Nat × TI)) (t : Nat) (K : TI → Prop), tiK Θ t K → ∃ ti, (t, ti) ∈ Θ ∧ K ti
  | [], _, _, h => h.elim
  | p :: r, t, K, h => by
    simp only [tiK] at h
    split at h
    · rename_i e
      have e := Nat.eq_of_beq_eq_true e
      subst e
      exact ⟨p.2, by simp, h⟩
    · obtain ⟨ti, h1, h2⟩ := tiK_out r t K h
      exact ⟨ti, by simp [h1], h2⟩

theorem pow_cases : ((2 : Int) ^ 7 = 128 ∧ (2 : Int) ^ 8 = 256 ∧ (2 : Int) ^ 15 = 32768 ∧ (2 : Int) ^ 16 = 65536 ∧ (2 : Int) ^ 31 = 2147483648 ∧ (2 : Int) ^ 32 = 4294967296 ∧ (2 : Int) ^ 63 = 9223372036854775808 ∧ (2 : Int) ^ 64 = 18446744073709551616) := by decide
theorem wrap_in (k : IntKind) (n : Int) (h1 : (if k.signed then -(kMax k : Int) - 1 else 0) ≤ n) (h2 : n ≤ kMax k) : k.wrap n = n := by
  cases k <;> simp only [IntKind.wrap, IntKind.bits, IntKind.signed, kMax, Bool.true_and, Bool.false_and, if_true, if_false, Bool.false_eq_true] at * <;>
    simp only [Nat.reduceSub, Int.reducePow] <;> (try split) <;> (try simp only [decide_eq_true_eq, ge_iff_le] at *) <;> omega
theorem wrap_wrap (k : IntKind) (n : Int) : k.wrap (k.wrap n) = k.wrap n := by
  refine wrap_in k _ ?_ ?_ <;> cases k <;> simp only [IntKind.wrap, IntKind.bits, IntKind.signed, kMax, Bool.true_and, Bool.false_and, if_true, if_false, Bool.false_eq_true] <;>
    simp only [Nat.reduceSub, Int.reducePow] <;> (try split) <;> (try simp only [decide_eq_true_eq, ge_iff_le] at *) <;> omega
theorem wfB_out {k : IntKind} {n : Int} (h : wfB k n = true) : k.wrap n = n := by
  cases n with
  | ofNat m =>
    simp only [wfB] at h
    have h := Nat.le_of_ble_eq_true h
    refine wrap_in k _ ?_ ?_
    · split
      · show _ ≤ (m : Int); omega
      · show (0 : Int) ≤ (m : Int); omega
    · show (m : Int) ≤ _; omega
  | negSucc m =>
    cases k <;> simp only [wfB] at h <;> first | (cases h; done) | skip
    all_goals
      have h := Nat.le_of_ble_eq_true h
      refine wrap_in _ _ ?_ ?_ <;> simp only [IntKind.signed, kMax, if_true] <;> omega

section lists
variable {ρ : List Loc} {H : List Ob} {g : Nat → Prop} {w : World}
theorem RVs.length : ∀ {xs : List A} {vs : List Value}, RVs ρ H g w xs vs → vs.length = xs.length
  | [], _, h => by simp only [RVs] at h; subst h; rfl
  | x :: xs, _, h => by
    simp only [RVs] at h
    obtain ⟨v, r, rfl, _, h⟩ := h
    simp [h.length]
theorem RVs.get : ∀ {xs : List A} {vs : List Value}, RVs ρ H g w xs vs → ∀ {i : Nat} {x : A}, xs[i]? = some x → ∃ v, vs[i]? = some v ∧ RV ρ H g w x v
  | [], _, _, _, _, hx => by simp at hx
  | x :: xs, _, h, i, y, hx => by
    simp only [RVs] at h
    obtain ⟨v, r, rfl, h1, h⟩ := h
    cases i with
    | zero => simp at hx; subst hx; exact ⟨v, by simp, h1⟩
    | succ i => simpa using h.get (by simpa using hx)
theorem RVs.set : ∀ {xs : List A} {vs : List Value}, RVs ρ H g w xs vs → ∀ (i : Nat) {x : A} {v : Value}, RV ρ H g w x v → RVs ρ H g w (xs.set i x) (vs.set i v)
  | [], _, h, _, _, _, _ => by simp only [RVs] at h; subst h; simp [RVs]
  | x :: xs, _, h, i, y, u, hy => by
    simp only [RVs] at h
    obtain ⟨v, r, rfl, h1, h⟩ := h
    cases i with
    | zero => simp only [List.set_cons_zero, RVs]; exact ⟨u, r, rfl, hy, h⟩
    | succ i => simp only [List.set_cons_succ, RVs]; exact ⟨v, _, rfl, h1, h.set i hy⟩
theorem RVs.append : ∀ {xs ys : List A} {vs us : List Value}, RVs ρ H g w xs vs → RVs ρ H g w ys us → RVs ρ H g w (xs ++ ys) (vs ++ us)
  | [], _, _, _, h, k => by simp only [RVs] at h; subst h; simpa using k
  | x :: xs, ys, _, us, h, k => by
    simp only [RVs] at h
    obtain ⟨v, r, rfl, h1, h⟩ := h
    simp only [List.cons_append, RVs]
    exact ⟨v, _, rfl, h1, h.append k⟩
theorem RVs.take : ∀ {xs : List A} {vs : List Value}, RVs ρ H g w xs vs → ∀ n, RVs ρ H g w (xs.take n) (vs.take n)
  | [], _, h, n => by simp only [RVs] at h; subst h; simp [RVs]
  | x :: xs, _, h, n => by
    simp only [RVs] at h
    obtain ⟨v, r, rfl, h1, h⟩ := h
    cases n with
    | zero => simp [RVs]
    | succ n => simp only [List.take_succ_cons, RVs]; exact ⟨v, _, rfl, h1, h.take n⟩
theorem RVs.drop : ∀ {xs : List A} {vs : List Value}, RVs ρ H g w xs vs → ∀ n, RVs ρ H g w (xs.drop n) (vs.drop n)
  | [], _, h, n => by simp only [RVs] at h; subst h; simp [RVs]
  | x :: xs, _, h, n => by
    simp only [RVs] at h
    obtain ⟨v, r, rfl, h1, h⟩ := h
    cases n with
    | zero => simp only [List.drop_zero, RVs]; exact ⟨v, r, rfl, h1, h⟩
    | succ n => simpa using h.drop n
theorem RVs.replicate (n : Nat) (v : Value) : RVs ρ H g w (List.replicate n .undef) (List.replicate n v) := by
  induction n with
  | zero => simp [RVs]
  | succ n ih => simp only [List.replicate_succ, RVs]; exact ⟨v, _, rfl, by simp [RV], ih⟩
theorem getK_out : ∀ {xs : List A} {vs : List Value}, RVs ρ H g w xs vs → ∀ (n : Nat) (K : A → Prop), getK xs n K → ∃ y, K y ∧ RV ρ H g w y (vs.getD n undef)
  | [], _, h, n, K, hk => by
    simp only [RVs] at h
    subst h
    exact ⟨.undef, by simpa [getK] using hk, by simp [RV]⟩
  | x :: xs, _, h, 0, K, hk => by
    simp only [RVs] at h
    obtain ⟨v, r, rfl, h1, h⟩ := h
    exact ⟨x, hk, by simpa using h1⟩
  | x :: xs, _, h, n + 1, K, hk => by
    simp only [RVs] at h
    obtain ⟨v, r, rfl, h1, h⟩ := h
    simp only [getK] at hk
    simpa using getK_out h n K hk
theorem constK_out {v : Value} {K : A → Prop} (h : constK v K) : ∃ y, K y ∧ RV ρ H g w y v := by
  unfold constK at h
  split at h
  · split at h
    · rename_i e; exact ⟨_, h, by simp [RV, RD, wfB_out e]⟩
    · exact h.elim
  · exact ⟨_, h, by simp [RV, RD]⟩
  · split at h
    · rename_i e
      have e := Nat.le_of_ble_eq_true e
      exact ⟨_, h, by simp only [RV, RD, maxLen, true_and]; omega⟩
    · exact h.elim
  · exact ⟨_, h, by simp [RV]⟩
  · exact ⟨_, h, by simp [RV]⟩
  · exact ⟨_, h, by simp [RV]⟩
  · exact ⟨_, h, by simp [RV]⟩
  · exact h.elim
theorem evK_out {a : Act} {env : List A} (hE : RVs ρ H g w env a.tmps.toList) {x : Operand} {K : A → Prop} (h : evK env x K) : ∃ y, K y ∧ RV ρ H g w y (a.eval x) := by
  cases x with
  | tmp t =>
    obtain ⟨y, h1, h2⟩ := getK_out hE t K h
    exact ⟨y, h1, by simpa [Act.eval, List.getD_eq_getElem?_getD, Array.getD_eq_getD_getElem?] using h2⟩
  | const v => exact constK_out h
  | global n => exact h.elim
  | func f => exact ⟨_, h, by simp only [RV, Act.eval]; exact ⟨#[], #[], rfl, by simp [RVs], by simp [RVs]⟩⟩
theorem evsK_out {a : Act} {env : List A} (hE : RVs ρ H g w env a.tmps.toList) : ∀ (xs : List Operand) (K : List A → Prop), evsK env xs K → ∃ ys, K ys ∧ RVs ρ H g w ys (xs.map a.eval)
  | [], K, h => ⟨[], h, by simp [RVs]⟩
  | x :: xs, K, h => by
    simp only [evsK] at h
    obtain ⟨y, h1, h2⟩ := evK_out hE h
    obtain ⟨ys, h3, h4⟩ := evsK_out hE xs _ h1
    exact ⟨y :: ys, h3, by simp only [List.map_cons, RVs]; exact ⟨_, _, rfl, h2, h4⟩⟩
theorem cellsK_out {x : A} {v : Value} (h : RV ρ H g w x v) {K : List A → Prop} (hk : cellsK x K) : ∃ cs, K cs ∧ RVs ρ H g w cs v.cells.toList := by
  have key : ∀ y, K [y] → RV ρ H g w y v → v.cells = #[v] → ∃ cs, K cs ∧ RVs ρ H g w cs v.cells.toList :=
    fun y h1 h2 h3 => ⟨[y], h1, by rw [h3]; simp only [RVs]; exact ⟨v, [], rfl, h2, rfl⟩⟩
  cases x with
  | undef => exact hk.elim
  | tup vs => exact hk.elim
  | agg cs =>
    have h' := h
    simp only [RV] at h
    obtain ⟨vs, rfl, h⟩ := h
    exact ⟨cs, hk, h⟩
  | d x =>
    refine key _ hk h ?_
    cases x <;> simp only [RV, RD] at h
    · subst h; rfl
    · obtain ⟨rfl, _⟩ := h; rfl
    · obtain ⟨rfl, _⟩ := h; rfl
    · obtain ⟨a, c, es, rfl, _⟩ := h; rfl
  | ptr o q => refine key _ hk h ?_; simp only [RV] at h; obtain ⟨⟨a, rfl⟩, _⟩ := h; rfl
  | fp r => refine key _ hk h ?_; simp only [RV] at h; obtain ⟨b, o, rfl, _⟩ := h; rfl
  | vp o gn i q => refine key _ hk h ?_; simp only [RV] at h; obtain ⟨⟨a, rfl⟩, _⟩ := h; rfl
  | vs o gn q => refine key _ hk h ?_; simp only [RV] at h; obtain ⟨⟨a, n, c, rfl⟩, _⟩ := h; rfl
  | es => refine key _ hk h ?_; simp only [RV] at h; obtain ⟨a, rfl⟩ := h; rfl
  | fn f x y => refine key _ hk h ?_; simp only [RV] at h; obtain ⟨a, b, rfl, _⟩ := h; rfl
  | nilp => refine key _ hk h ?_; simp only [RV] at h; subst h; rfl
  | nilf => refine key _ hk h ?_; simp only [RV] at h; subst h; rfl
  | mp o => refine key _ hk h ?_; simp only [RV] at h; obtain ⟨⟨a, rfl⟩, _⟩ := h; rfl
  | nilm => refine key _ hk h ?_; simp only [RV] at h; subst h; rfl
end lists

section rows
variable {g : Nat → Prop} {w : World} {es : Nat}
theorem RDrows.drop : ∀ {els : List (List D)} {blk off : Nat}, RDrows g w es els blk off → ∀ n, RDrows g w es (els.drop n) blk (off + n * es)
  | [], _, _, _, n => by simp [RDrows]
  | r :: rs, blk, off, h, 0 => by simpa using h
  | r :: rs, blk, off, h, n + 1 => by
    simp only [RDrows] at h
    have := h.2.2.drop n
    rw [show off + (n + 1) * es = off + es + n * es by rw [Nat.add_mul]; omega]
    simpa using this
theorem RDrows.take : ∀ {els : List (List D)} {blk off : Nat}, RDrows g w es els blk off → ∀ n, RDrows g w es (els.take n) blk off
  | [], _, _, _, n => by simp [RDrows]
  | r :: rs, blk, off, h, 0 => by simp [RDrows]
  | r :: rs, blk, off, h, n + 1 => by
    simp only [RDrows] at h
    simp only [List.take_succ_cons, RDrows]
    exact ⟨h.1, h.2.1, h.2.2.take n⟩
theorem RDrows.get : ∀ {els : List (List D)} {blk off : Nat}, RDrows g w es els blk off → ∀ {i : Nat} {row : List D}, els[i]? = some row → row.length = es ∧ RDs g w row blk (off + i * es)
  | [], _, _, _, _, _, hr => by simp at hr
  | r :: rs, blk, off, h, i, row, hr => by
    simp only [RDrows] at h
    cases i with
    | zero => simp at hr; subst hr; simpa using ⟨h.1, h.2.1⟩
    | succ i =>
      have := h.2.2.get (i := i) (by simpa using hr)
      rw [show off + (i + 1) * es = off + es + i * es by rw [Nat.add_mul]; omega]
      exact this
theorem RDrows.append : ∀ {els ys : List (List D)} {blk off : Nat}, RDrows g w es els blk off → RDrows g w es ys blk (off + els.length * es) → RDrows g w es (els ++ ys) blk off
  | [], _, _, _, _, k => by simpa using k
  | r :: rs, ys, blk, off, h, k => by
    simp only [RDrows] at h
    simp only [List.cons_append, RDrows]
    refine ⟨h.1, h.2.1, h.2.2.append ?_⟩
    rw [List.length_cons, Nat.add_mul] at k
    rw [show off + es + rs.length * es = off + (rs.length * es + 1 * es) by omega]
    exact k
theorem RDrows.set : ∀ {els : List (List D)} {blk off : Nat}, RDrows g w es els blk off → ∀ {i : Nat} {row : List D}, row.length = es → RDs g w row blk (off + i * es) → RDrows g w es (els.set i row) blk off
  | [], _, _, _, _, _, _, _ => by simp [RDrows]
  | r :: rs, blk, off, h, i, row, hl, hr => by
    simp only [RDrows] at h
    cases i with
    | zero => simp only [List.set_cons_zero, RDrows]; exact ⟨hl, by simpa using hr, h.2.2⟩
    | succ i =>
      simp only [List.set_cons_succ, RDrows]
      refine ⟨h.1, h.2.1, h.2.2.set hl ?_⟩
      rw [show off + es + i * es = off + (i + 1) * es by rw [Nat.add_mul]; omega]
      exact hr
theorem RDs.drop : ∀ {xs : List D} {blk off : Nat}, RDs g w xs blk off → ∀ n, RDs g w (xs.drop n) blk (off + n)
  | [], _, _, _, n => by simp [RDs]
  | x :: xs, blk, off, h, 0 => by simpa using h
  | x :: xs, blk, off, h, n + 1 => by
    simp only [RDs] at h
    have := h.2.drop n
    rw [show off + (n + 1) = off + 1 + n by omega]
    simpa using this
theorem RDs.take : ∀ {xs : List D} {blk off : Nat}, RDs g w xs blk off → ∀ n, RDs g w (xs.take n) blk off
  | [], _, _, _, n => by simp [RDs]
  | x :: xs, blk, off, h, 0 => by simp [RDs]
  | x :: xs, blk, off, h, n + 1 => by
    simp only [RDs] at h
    simp only [List.take_succ_cons, RDs]
    exact ⟨h.1, h.2.take n⟩
/-- the cells of a row, as values -/
theorem RDs.vals {ρ : List Loc} {H : List Ob} : ∀ {xs : List D} {blk off : Nat}, RDs g w xs blk off → ∃ vs : List Value, RVs ρ H g w (mapD xs) vs ∧ ∀ j u, vs[j]? = some u → w.cell? ⟨blk, off + j, none⟩ = some u
  | [], _, _, _ => ⟨[], by simp [mapD, RVs], by simp⟩
  | x :: xs, blk, off, h => by
    simp only [RDs] at h
    obtain ⟨⟨u, hu, hx⟩, h⟩ := h
    obtain ⟨vs, h1, h2⟩ := h.vals (ρ := ρ) (H := H)
    refine ⟨u :: vs, by simp only [mapD, RVs]; exact ⟨u, vs, rfl, by simpa only [RV] using hx, h1⟩, ?_⟩
    intro j v hv
    cases j with
    | zero => simp at hv; subst hv; simpa using hu
    | succ j =>
      have := h2 j v (by simpa using hv)
      rw [show off + (j + 1) = off + 1 + j by omega]
      exact this
theorem length_mapD : ∀ xs : List D, (mapD xs).length = xs.length
  | [] => rfl
  | x :: xs => by simp [mapD, length_mapD xs]
theorem dropN_eq {α : Type} (n : Nat) (l : List α) : dropN n l = l.drop n := by cases n <;> rfl
end rows

section vrows
variable {ρ : List Loc} {H : List Ob} {g : Nat → Prop} {w : World} {es : Nat}
theorem RVrows.drop : ∀ {els : List (List A)} {blk off : Nat}, RVrows ρ H g w es els blk off → ∀ n, RVrows ρ H g w es (els.drop n) blk (off + n * es)
  | [], _, _, _, n => by simp [RVrows]
  | r :: rs, blk, off, h, 0 => by simpa using h
  | r :: rs, blk, off, h, n + 1 => by
    simp only [RVrows] at h
    have := h.2.2.drop n
    rw [show off + (n + 1) * es = off + es + n * es by rw [Nat.add_mul]; omega]
    simpa using this
theorem RVrows.take : ∀ {els : List (List A)} {blk off : Nat}, RVrows ρ H g w es els blk off → ∀ n, RVrows ρ H g w es (els.take n) blk off
  | [], _, _, _, n => by simp [RVrows]
  | r :: rs, blk, off, h, 0 => by simp [RVrows]
  | r :: rs, blk, off, h, n + 1 => by
    simp only [RVrows] at h
    simp only [List.take_succ_cons, RVrows]
    exact ⟨h.1, h.2.1, h.2.2.take n⟩
theorem RVrows.append : ∀ {els ys : List (List A)} {blk off : Nat}, RVrows ρ H g w es els blk off → RVrows ρ H g w es ys blk (off + els.length * es) → RVrows ρ H g w es (els ++ ys) blk off
  | [], _, _, _, _, k => by simpa using k
  | r :: rs, ys, blk, off, h, k => by
    simp only [RVrows] at h
    simp only [List.cons_append, RVrows]
    refine ⟨h.1, h.2.1, h.2.2.append ?_⟩
    rw [List.length_cons, Nat.add_mul] at k
    rw [show off + es + rs.length * es = off + (rs.length * es + 1 * es) by omega]
    exact k
theorem RVrows.get : ∀ {els : List (List A)} {blk off : Nat}, RVrows ρ H g w es els blk off → ∀ {i : Nat} {row : List A}, els[i]? = some row → row.length = es ∧ RVcells ρ H g w row blk (off + i * es)
  | [], _, _, _, _, _, hr => by simp at hr
  | r :: rs, blk, off, h, i, row, hr => by
    simp only [RVrows] at h
    cases i with
    | zero => simp at hr; subst hr; simpa using ⟨h.1, h.2.1⟩
    | succ i =>
      have := h.2.2.get (i := i) (by simpa using hr)
      rw [show off + (i + 1) * es = off + es + i * es by rw [Nat.add_mul]; omega]
      exact this
theorem RVrows_iff : ∀ {els : List (List A)} {blk off : Nat}, RVrows ρ H g w es els blk off ↔ ∀ (i : Nat) (row : List A), els[i]? = some row → row.length = es ∧ RVcells ρ H g w row blk (off + i * es)
  | [], _, _ => by simp [RVrows]
  | r :: rs, blk, off => by
    constructor
    · intro h i row hr
      exact h.get hr
    · intro h
      simp only [RVrows]
      have h0 := h 0 r rfl
      refine ⟨h0.1, by simpa using h0.2, RVrows_iff.2 fun i row hr => ?_⟩
      have := h (i + 1) row (by simpa using hr)
      rw [show off + (i + 1) * es = off + es + i * es by rw [Nat.add_mul]; omega] at this
      exact this
theorem RVcells_iff : ∀ {xs : List A} {blk off : Nat}, RVcells ρ H g w xs blk off ↔ ∀ (j : Nat) (x : A), xs[j]? = some x → x.one = true ∧ ∃ u, w.cell? ⟨blk, off + j, none⟩ = some u ∧ RV ρ H g w x u
  | [], _, _ => by simp [RVcells]
  | x :: xs, blk, off => by
    constructor
    · intro h j y hy
      simp only [RVcells] at h
      cases j with
      | zero => simp at hy; subst hy; exact ⟨h.1, by simpa using h.2.1⟩
      | succ j =>
        have := RVcells_iff.1 h.2.2 j y (by simpa using hy)
        rw [show off + (j + 1) = off + 1 + j by omega]
        exact this
    · intro h
      simp only [RVcells]
      have h0 := h 0 x rfl
      refine ⟨h0.1, by simpa using h0.2, RVcells_iff.2 fun j y hy => ?_⟩
      have := h (j + 1) y (by simpa using hy)
      rw [show off + (j + 1) = off + 1 + j by omega] at this
      exact this
/-- the cells, as values -/
theorem RVcells.vals : ∀ {xs : List A} {blk off : Nat}, RVcells ρ H g w xs blk off → ∃ vs : List Value, RVs ρ H g w xs vs ∧ ∀ j u, vs[j]? = some u → w.cell? ⟨blk, off + j, none⟩ = some u
  | [], _, _, _ => ⟨[], by simp [RVs], by simp⟩
  | x :: xs, blk, off, h => by
    simp only [RVcells] at h
    obtain ⟨_, ⟨u, hu, hx⟩, h⟩ := h
    obtain ⟨vs, h1, h2⟩ := h.vals
    refine ⟨u :: vs, by simp only [RVs]; exact ⟨u, vs, rfl, hx, h1⟩, ?_⟩
    intro j v hv
    cases j with
    | zero => simp at hv; subst hv; simpa using hu
    | succ j =>
      have := h2 j v (by simpa using hv)
      rw [show off + (j + 1) = off + 1 + j by omega]
      exact this
theorem RVcells.toD : ∀ {row : List D} {blk off : Nat}, RVcells ρ H g w (mapD row) blk off → RDs g w row blk off
  | [], _, _, _ => by simp [RDs]
  | x :: xs, blk, off, h => by
    simp only [mapD, RVcells, RV] at h
    simp only [RDs]
    exact ⟨h.2.1, h.2.2.toD⟩
theorem RVrows.toD : ∀ {rows : List (List D)} {blk off : Nat}, RVrows ρ H g w es (rows.map mapD) blk off → RDrows g w es rows blk off
  | [], _, _, _ => by simp [RDrows]
  | r :: rs, blk, off, h => by
    simp only [List.map_cons, RVrows, length_mapD] at h
    simp only [RDrows]
    exact ⟨h.1, h.2.1.toD, h.2.2.toD⟩
theorem RDs.toV : ∀ {row : List D} {blk off : Nat}, RDs g w row blk off → RVcells ρ H g w (mapD row) blk off
  | [], _, _, _ => by simp [RVcells, mapD]
  | x :: xs, blk, off, h => by
    simp only [RDs] at h
    simp only [mapD, RVcells, RV]
    exact ⟨rfl, h.1, h.2.toV⟩
theorem RDrows.toV : ∀ {rows : List (List D)} {blk off : Nat}, RDrows g w es rows blk off → RVrows ρ H g w es (rows.map mapD) blk off
  | [], _, _, _ => by simp [RVrows]
  | r :: rs, blk, off, h => by
    simp only [RDrows] at h
    simp only [List.map_cons, RVrows, length_mapD]
    exact ⟨h.1, h.2.1.toV, h.2.2.toV⟩
end vrows

section freeze
variable {G : Nat → Prop} {wb : World} {ρ : List Loc} {H : List Ob} {w : World}
theorem SimH.loc (hS : SimH G wb ρ H w) {o : Nat} {ob : Ob} (h : H[o]? = some ob) : ∃ l, ρ[o]? = some l := by
  have : o < H.length := by
    rcases Nat.lt_or_ge o H.length with h' | h'
    · exact h'
    · rw [List.getElem?_eq_none h'] at h; cases h
  exact ⟨ρ[o]'(by rw [hS.len]; exact this), by simp⟩
theorem set_self {α : Type} {l : List α} {i : Nat} {a : α} (h : l[i]? = some a) : l.set i a = l := by
  apply List.ext_getElem?
  intro j
  rw [List.getElem?_set]
  split
  · rename_i e; subst e; split
    · exact h.symm
    · rename_i h'; rw [List.getElem?_eq_none (by omega)]
  · rfl
theorem freeze (hS : SimH G wb ρ H w) {o : Nat} {l : Loc} {ob : Ob} (ho : ρ[o]? = some l) (hob : H[o]? = some ob) :
    SimH G wb ρ (H.set o .gone) w ∧ Step ρ H w ρ (H.set o .gone) w := by
  have ht : Turns ob .gone l l := by left; rfl
  have h1 := sim_set (w' := w) (l' := l) (ob' := .gone) hS ho hob rfl rfl rfl (Nat.le_refl _) (fun _ _ _ => rfl) ht (fun h => h.elim) trivial
  have h2 := step_set (w' := w) (l' := l) (ob' := .gone) hS ho hob rfl rfl rfl (Nat.le_refl _) (fun _ _ _ => rfl) ht (fun h => h.elim)
  rw [set_self ho] at h1 h2
  exact ⟨h1, h2⟩
theorem toDK_out (hS : SimH G wb ρ H w) {x : A} {v : Value} (hx : RV ρ H (gd G ρ H) w x v) {K : D → List Ob → Prop} (hk : toDK x H K) :
    ∃ y H', K y H' ∧ SimH G wb ρ H' w ∧ RD (gd G ρ H') w y v ∧ Step ρ H w ρ H' w := by
  unfold toDK at hk
  split at hk
  · exact ⟨_, H, hk, hS, by simpa only [RV] using hx, .refl _ _ _⟩
  · simp only [RV] at hx
    obtain ⟨a, rfl⟩ := hx
    exact ⟨_, H, hk, hS, by simp only [RD]; exact ⟨a, 0, 1, rfl, by simp, by simp [maxLen], by omega, by simp⟩, .refl _ _ _⟩
  · rename_i o gn off
    obtain ⟨ob, hob, hk⟩ := getO_out _ _ _ hk
    split at hk
    · rename_i g' es els
      obtain ⟨e, rows, hrows, hk⟩ := hk
      subst e
      rw [dropN_eq] at hrows
      have hk := setK_out _ _ _ _ hk
      obtain ⟨l, hl⟩ := hS.loc hob
      obtain ⟨s1, s2⟩ := freeze hS hl hob
      simp only [RV] at hx
      obtain ⟨_, _, hx⟩ := hx
      obtain ⟨_, hx⟩ := hx _ _ _ hob
      obtain ⟨l', a, hl', hoff, rfl, ha⟩ := hx rfl
      rw [hl] at hl'
      cases hl'
      have hok := hS.ok o l _ hl hob
      simp only [ObOk] at hok
      obtain ⟨k1, k2, k3, k4, k5⟩ := hok
      refine ⟨_, _, hk, s1, ?_, s2⟩
      have hlen : rows.length = els.length - off := by
        have := congrArg List.length hrows
        simpa using this.symm
      simp only [RD]
      refine ⟨a, l.cap - off, es, by rw [hlen], by omega, by omega, k3, ?_⟩
      by_cases hlt : off < els.length
      · right
        refine ⟨l.blk, l.off + off * es, ha (by omega), ⟨hS.gown o l _ hl hob (show 0 < l.cap by omega), ?_⟩, ?_⟩
        · rintro ⟨o1, l1, ob1, a1, a2, a3, a4⟩
          by_cases e : o1 = o
          · subst e
            have hlt1 : o1 < H.length := by
              rcases Nat.lt_or_ge o1 H.length with h' | h'
              · exact h'
              · rw [List.getElem?_eq_none h'] at hob; cases hob
            rw [List.getElem?_set_self hlt1] at a2
            cases a2
            exact a3
          · rw [List.getElem?_set_ne (Ne.symm e)] at a2
            exact e (hS.inj o1 o l1 l ob1 _ a1 hl a2 hob a3 (show 0 < l.cap by omega) a4)
        · have k6 := k5.drop off
          rw [hrows] at k6
          exact RDrows.move s2.good s2.kept es _ _ _ (fun _ => rfl) k6.toD
      · left
        exact List.eq_nil_of_length_eq_zero (by omega)
    · exact hk.elim
  · exact hk.elim
end freeze
end Go.DL
