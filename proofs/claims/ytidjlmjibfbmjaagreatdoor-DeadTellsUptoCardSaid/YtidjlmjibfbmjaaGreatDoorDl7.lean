/- Soundness of slice expressions. -/
import Derived.Test.YtidjlmjibfbmjaaGreatDoorDl6
namespace Go.DL
open Go.RowKit

section
variable {P : Program} {wb : World} {Θ : List (Nat × TI)} {G : Nat → Prop} {ρ : List Loc} {H : List Ob} {w : World} {a : Act} {env : List A} {K : A → List Ob → Prop}

def OptRel (a : Act) : Option Operand → Option Int → Prop
  | none, r => r = none
  | some y, r => ∃ k n, a.eval y = .int k n ∧ r = some n
theorem optK_out (hE : RVs ρ H (gd G ρ H) w env a.tmps.toList) {x : Option Operand} {L : Option Int → Prop} (h : optK env x L) : ∃ r, L r ∧ OptRel a x r := by
  cases x with
  | none => exact ⟨none, h, rfl⟩
  | some y =>
    obtain ⟨v, h1, hv⟩ := evK_out hE h
    cases v with
    | d dd =>
      cases dd with
      | i k n =>
        simp only [RV, RD] at hv
        exact ⟨_, h1, k, n, hv.1, rfl⟩
      | _ => exact h1.elim
    | _ => exact h1.elim

def loN (l : Option Int) : Nat := match l with | none => 0 | some l => l.toNat
def hiN (h : Option Int) (len : Nat) : Nat := match h with | none => len | some h => h.toNat
theorem run_bounds {b : Bool} {len cap : Nat} {lo hi : Option Operand} {l h : Option Int} (hl : OptRel a lo l) (hh : OptRel a hi h)
    (h1 : ∀ n, h = some n → 0 ≤ n ∧ n ≤ cap) (h2 : ∀ n, l = some n → 0 ≤ n ∧ n ≤ hiN h len) :
    (Instr.sliceBounds b len cap (lo.map a.eval) (hi.map a.eval) none).run P w = .ok (loN l, hiN h len, cap) w := by
  cases lo with
  | none =>
    simp only [OptRel] at hl
    subst hl
    cases hi with
    | none =>
      simp only [OptRel] at hh
      subst hh
      simp [Instr.sliceBounds, loN, hiN]
    | some y =>
      obtain ⟨k, n, e, rfl⟩ := hh
      have := h1 n rfl
      simp [Instr.sliceBounds, Instr.sliceBound, e, asIntOf, this.1, this.2, loN, hiN]
  | some x =>
    obtain ⟨k', m, e', rfl⟩ := hl
    have h3 := h2 m rfl
    cases hi with
    | none =>
      simp only [OptRel] at hh
      subst hh
      simp only [hiN] at h3
      simp [Instr.sliceBounds, Instr.sliceBound, e', asIntOf, h3.1, h3.2, loN, hiN]
    | some y =>
      obtain ⟨k, n, e, rfl⟩ := hh
      have := h1 n rfl
      simp only [hiN] at h3
      have h4 : m ≤ max n 0 := by omega
      simp [Instr.sliceBounds, Instr.sliceBound, e, e', asIntOf, this.1, this.2, h3.1, h4, loN, hiN]

theorem run_sliceAt {t e : Nat} {te : TI} (ht : P.underlying t = some (.slice e)) (hte : TIok P e te) {ad : Option Addr} {len cap : Nat} {lo hi : Option Operand} {l h : Option Int} (hl : OptRel a lo l) (hh : OptRel a hi h)
    (h1 : ∀ n, h = some n → 0 ≤ n ∧ n ≤ cap) (h2 : ∀ n, l = some n → 0 ≤ n ∧ n ≤ hiN h len) :
    (Instr.sliceAt t (.slice ad len cap) (lo.map a.eval) (hi.map a.eval) none).run P w =
      .ok (.slice (if cap = loN l then ad else ad.map (·.add (loN l * te.size))) (hiN h len - loN l) (cap - loN l)) w := by
  have hb := run_bounds (P := P) (w := w) (b := true) hl hh h1 h2
  simp [Instr.sliceAt, Instr.slice, run_underlying ht, hb, hte.run_sizeOf]

theorem out_slice (hΘ : ΘOk P Θ) (hS : SimH G wb ρ H w) (hE : RVs ρ H (gd G ρ H) w env a.tmps.toList) {o : Oper} {t : Nat} {x : Operand} {lo hi mx : Option Operand} (ho : o.op = .slice t x lo hi mx)
    (h : opD P wb Θ (.slice t x lo hi mx) env H K) : OpOut P G wb ρ H w K ((execOp a.eval o).run P w) := by
  simp only [opD] at h
  obtain ⟨ti, h1, h2⟩ := tiK_out _ _ _ h
  have hti := hΘ _ _ h1
  obtain ⟨y, h3, hy⟩ := evK_out hE h2
  obtain ⟨l, h4, hl⟩ := optK_out hE h3
  obtain ⟨hh, h5, hhi⟩ := optK_out hE h4
  obtain ⟨m, h6, hm⟩ := optK_out hE h5
  clear h h2 h3 h4 h5
  cases hk : ti.k with
  | slice e =>
    rw [hk] at h6
    obtain ⟨te, he, h7⟩ := tiK_out _ _ _ h6
    have hte := hΘ _ _ he
    have hund := hti.slice hk
    cases m with
    | some m =>
      cases mx with
      | none => simp only [OptRel] at hm; cases hm
      | some mo =>
        obtain ⟨km, mm, em, e0⟩ := hm
        cases e0
        have fin : ∀ (ad : Option Addr) (n c : Nat), a.eval x = .slice ad n c → m = 0 → hh = some 0 → (l = none ∨ l = some 0) → K .es H → OpOut P G wb ρ H w K ((execOp a.eval o).run P w) := by
          intro ad n c ex e1 e2 e3 hk
          subst e1
          subst e2
          cases hi with
          | none => simp only [OptRel] at hhi; cases hhi
          | some ho' =>
            obtain ⟨kh, nh, eh, e0⟩ := hhi
            cases e0
            refine .pure hS (v := .slice ad 0 0) ?_ hk (by simp only [RV]; exact ⟨ad, rfl⟩)
            cases lo with
            | none => simp [execOp, ho, Instr.sliceAt, Instr.slice, run_underlying hund, ex, Instr.sliceBounds, Instr.sliceBound, em, eh, asIntOf, hte.run_sizeOf]
            | some lo' =>
              obtain ⟨kl, nl, el, e4⟩ := hl
              subst e4
              rcases e3 with e3 | e3
              · cases e3
              · cases e3
                simp [execOp, ho, Instr.sliceAt, Instr.slice, run_underlying hund, ex, Instr.sliceBounds, Instr.sliceBound, em, eh, el, asIntOf, hte.run_sizeOf]
        cases y with
        | d yd =>
          cases yd with
          | sl els =>
            simp only [RV, RD] at hy
            obtain ⟨ad, c, es, ex, _⟩ := hy
            cases l with
            | none =>
              cases hh with
              | none => exact h7.elim
              | some h0 => obtain ⟨q1, q2, q3⟩ := h7; subst q1; exact fin ad _ _ ex q2 rfl (.inl rfl) q3
            | some l0 =>
              cases hh with
              | none => exact h7.elim
              | some h0 => obtain ⟨q0, q1, q2, q3⟩ := h7; subst q0; subst q1; exact fin ad _ _ ex q2 rfl (.inr rfl) q3
          | _ => exact h7.elim
        | es =>
            simp only [RV] at hy
            obtain ⟨ad, ex⟩ := hy
            cases l with
            | none =>
              cases hh with
              | none => exact h7.elim
              | some h0 => obtain ⟨q1, q2, q3⟩ := h7; subst q1; exact fin ad _ _ ex q2 rfl (.inl rfl) q3
            | some l0 =>
              cases hh with
              | none => exact h7.elim
              | some h0 => obtain ⟨q0, q1, q2, q3⟩ := h7; subst q0; subst q1; exact fin ad _ _ ex q2 rfl (.inr rfl) q3
        | _ => exact h7.elim
    | none =>
      cases mx with
      | some mo => obtain ⟨km, mm, em, e0⟩ := hm; cases e0
      | none =>
        have fin : ∀ (ad : Option Addr) (n c : Nat) (z : A), a.eval x = .slice ad n c → (∀ q, hh = some q → 0 ≤ q ∧ q ≤ c) → (∀ q, l = some q → 0 ≤ q ∧ q ≤ hiN hh n) → K z H →
            RV ρ H (gd G ρ H) w z (.slice (if c = loN l then ad else ad.map (·.add (loN l * te.size))) (hiN hh n - loN l) (c - loN l)) → OpOut P G wb ρ H w K ((execOp a.eval o).run P w) := by
          intro ad n c z ex q1 q2 hk hz
          have hr := run_sliceAt (w := w) hund hte (ad := ad) (len := n) (cap := c) hl hhi q1 q2
          exact .pure hS (by simp [execOp, ho, ex, hr]) hk hz
        cases y with
        | d yd =>
          cases yd with
          | sl els =>
            simp only [RV, RD] at hy
            obtain ⟨ad, c, es, ex, c1, c2, c3, c4⟩ := hy
            have go : ∀ (A0 : Nat), (l = none ∨ ∀ r ∈ els, r.length = te.size) → A0 = hiN hh els.length → loN l ≤ A0 → A0 ≤ els.length →
                RV ρ H (gd G ρ H) w (.d (.sl ((els.take A0).drop (loN l)))) (.slice (if c = loN l then ad else ad.map (·.add (loN l * te.size))) (hiN hh els.length - loN l) (c - loN l)) := by
              intro A0 hrow hA hl0 hA0
              simp only [RV, RD]
              refine ⟨if c = loN l then ad else ad.map (·.add (loN l * te.size)), c - loN l, es, ?_, ?_, by omega, c3, ?_⟩
              · rw [← hA]
                congr 1
                simp
                omega
              · simp
                omega
              · by_cases hn : (els.take A0).drop (loN l) = []
                · exact .inl hn
                · right
                  have hlt : loN l < A0 := by
                    rcases Nat.lt_or_ge (loN l) A0 with h' | h'
                    · exact h'
                    · exact absurd (List.drop_eq_nil_of_le (by simp; omega)) hn
                  rcases c4 with c4 | ⟨blk, off, rfl, hb, hr⟩
                  · subst c4; simp at hn
                  · rw [if_neg (by omega)]
                    have hes : loN l = 0 ∨ es = te.size := by
                      rcases hrow with hrow | hrow
                      · left; subst hrow; rfl
                      · right
                        cases els with
                        | nil => simp at hn
                        | cons r rs =>
                          simp only [RDrows] at hr
                          rw [← hr.1]
                          exact hrow r (by simp)
                    refine ⟨blk, off + loN l * es, ?_, hb, (hr.take A0).drop (loN l)⟩
                    rw [Option.map_some, add_off]
                    rcases hes with h0 | h0
                    · rw [h0]; simp
                    · rw [h0]
            cases l with
            | none =>
              cases hh with
              | none =>
                refine fin ad _ c _ ex (by simp) (by simp) h7 ?_
                have := go els.length (.inl rfl) rfl (Nat.zero_le _) (Nat.le_refl _)
                simpa [loN] using this
              | some q =>
                obtain ⟨q1, q2, q3⟩ := h7
                refine fin ad _ c _ ex (by intro q' e; cases e; omega) (by simp) q3 ?_
                have := go q.toNat (.inl rfl) rfl (Nat.zero_le _) (by omega)
                simpa [loN] using this
            | some p =>
              cases hh with
              | none =>
                obtain ⟨q1, q2, q3, q4⟩ := h7
                refine fin ad _ c _ ex (by simp) (by intro q' e; cases e; simp only [hiN]; omega) q4 ?_
                have := go els.length (.inr q3) rfl (by simp only [loN]; omega) (Nat.le_refl _)
                simpa [loN] using this
              | some q =>
                obtain ⟨q1, q2, q3, q4, q5⟩ := h7
                refine fin ad _ c _ ex (by intro q' e; cases e; omega) (by intro q' e; cases e; simp only [hiN]; omega) q5 ?_
                exact go q.toNat (.inr q4) rfl (by simp only [loN]; omega) (by omega)
          | _ => exact h7.elim
        | es =>
          simp only [RV] at hy
          obtain ⟨ad, ex⟩ := hy
          have done : (∀ q, hh = some q → q = 0) → (∀ q, l = some q → q = 0) → K .es H → OpOut P G wb ρ H w K ((execOp a.eval o).run P w) := by
            intro q1 q2 hk
            have e1 : hiN hh 0 = 0 := by cases hh with
              | none => rfl
              | some q => simp [hiN, q1 q rfl]
            have e2 : loN l = 0 := by cases l with
              | none => rfl
              | some q => simp [loN, q2 q rfl]
            refine fin ad 0 0 _ ex (fun q hq => by rw [q1 q hq]; simp) (fun q hq => by rw [q2 q hq, e1]; simp) hk ?_
            rw [e1, e2]
            simp only [RV]
            exact ⟨_, rfl⟩
          cases l with
          | none =>
            cases hh with
            | none => exact done (by simp) (by simp) h7
            | some q => exact done (by intro q' e; cases e; exact h7.1) (by simp) h7.2
          | some p =>
            cases hh with
            | none => exact done (by simp) (by intro q' e; cases e; exact h7.1) h7.2
            | some q => exact done (by intro q' e; cases e; exact h7.2.1) (by intro q' e; cases e; exact h7.1) h7.2.2
        | vs ob gn off =>
          obtain ⟨obj, hob, h8⟩ := getO_out _ _ _ h7
          cases obj with
          | vec g' es' els =>
            obtain ⟨e1, e2, h9⟩ := h8
            subst e1
            subst e2
            have hy' := hy
            simp only [RV] at hy
            obtain ⟨_, hy2⟩ := hy.2.2 _ _ _ hob
            obtain ⟨lc, ad, hlc, hoff, ex, ha⟩ := hy2 rfl
            have hyo := hy.2.1
            clear hy hy2
            have hok := hS.ok _ _ _ hlc hob
            simp only [ObOk] at hok
            obtain ⟨k1, k2, k3, k4, k5⟩ := hok
            cases l with
            | none =>
              cases hh with
              | none =>
                refine fin ad _ _ _ ex (by simp) (by simp) h9 ?_
                have : (if lc.cap - off = loN none then ad else ad.map (·.add (loN none * te.size))) = ad := by
                  split
                  · rfl
                  · cases ad <;> simp [loN, Addr.add]
                rw [this]
                simpa [loN, hiN, ← ex] using hy'
              | some q =>
                obtain ⟨q1, mm, q2, q3, q4⟩ := h9
                have q4 := setK_out _ _ _ _ q4
                have hr := run_sliceAt (w := w) hund hte (ad := ad) (len := els.length - off) (cap := lc.cap - off) hl hhi (fun q' e => by cases e; clear k4; omega) (by simp)
                have hrun : (execOp a.eval o).run P w = .ok (.value (.slice ad q.toNat (lc.cap - off))) w := by
                  have : (if lc.cap - off = loN none then ad else ad.map (·.add (loN none * te.size))) = ad := by
                    split
                    · rfl
                    · cases ad <;> simp [loN, Addr.add]
                  rw [this] at hr
                  simp [execOp, ho, ex, hr, loN, hiN]
                rw [hrun]
                have ht : Turns (.vec gn te.size els) (.vec (gn + 1) te.size (els.take mm)) lc lc := .inr ⟨gn + 1, _, rfl, by omega, fun h => absurd h (by omega)⟩
                have hoH : ob < H.length := by
                  rcases Nat.lt_or_ge ob H.length with h' | h'
                  · exact h'
                  · rw [List.getElem?_eq_none h'] at hob; cases hob
                have hst := step_set (w' := w) (l' := lc) (ob' := .vec (gn + 1) te.size (els.take mm)) hS hlc hob rfl rfl rfl (Nat.le_refl _) (fun _ _ _ => rfl) ht (fun hw => .inl ⟨rfl, hw⟩)
                have hsi := sim_set (w' := w) (l' := lc) (ob' := .vec (gn + 1) te.size (els.take mm)) hS hlc hob rfl rfl rfl (Nat.le_refl _) (fun _ _ _ => rfl) ht (fun hw => .inl ⟨rfl, hw⟩) (by
                  simp only [ObOk]
                  exact ⟨by simp; clear k4; omega, k2, k3, k4, RVrows.move hst hS.len hst.good hst.kept _ _ _ _ (fun _ => rfl) (k5.take mm)⟩)
                rw [set_self hlc] at hst hsi
                refine .val _ _ ⟨_, _, _, q4, hsi, ?_, hst⟩
                simp only [RV]
                refine ⟨⟨_, _, _, rfl⟩, by simpa using hoH, fun gc es'' els'' hc => ?_⟩
                rw [List.getElem?_set_self hoH] at hc
                cases hc
                refine ⟨Nat.le_refl _, fun _ => ⟨lc, ad, hlc, by simp; clear k4; omega, ?_, ha⟩⟩
                congr 1
                simp
                clear k4
                omega
            | some p =>
              cases hh with
              | none =>
                obtain ⟨q1, mm, q2, q3, q4⟩ := h9
                refine fin ad _ _ _ ex (by simp) (by intro q' e; cases e; simp only [hiN]; clear k4; omega) q4 ?_
                simp only [RV]
                refine ⟨⟨_, _, _, rfl⟩, hyo, fun gc es'' els'' hc => ?_⟩
                rw [hob] at hc
                cases hc
                refine ⟨Nat.le_refl _, fun _ => ⟨lc, if lc.cap - off = loN (some p) then ad else ad.map (·.add (loN (some p) * te.size)), hlc, q3, ?_, fun hlt => ?_⟩⟩
                · simp only [hiN, loN]
                  congr 1 <;> (clear k4; omega)
                · have hne : ¬ (lc.cap - off = loN (some p)) := by simp only [loN]; clear k4; omega
                  rw [if_neg hne, ha (by clear k4; omega), Option.map_some, add_off]
                  simp only [loN]
                  rw [← q2, Nat.add_mul, Nat.add_assoc]
              | some q => exact h9.elim
          | _ => exact h8.elim
        | _ => exact h7.elim
  | str =>
    rw [hk] at h6
    obtain ⟨d, d1, d2⟩ := hti.und
    rw [hk] at d2
    simp only [kindOk] at d2
    subst d2
    cases m with
    | some m => exact h6.elim
    | none =>
      cases mx with
      | some mo => obtain ⟨km, mm, em, e0⟩ := hm; cases e0
      | none =>
        cases y with
        | d yd =>
          cases yd with
          | s b =>
            simp only [RV, RD] at hy
            have fin : (∀ q, hh = some q → 0 ≤ q ∧ q ≤ b.size) → (∀ q, l = some q → 0 ≤ q ∧ q ≤ hiN hh b.size) → K (.d (.s (b.extract (loN l) (hiN hh b.size)))) H → OpOut P G wb ρ H w K ((execOp a.eval o).run P w) := by
              intro q1 q2 hk
              have hb := run_bounds (P := P) (w := w) (b := false) (len := b.size) (cap := b.size) hl hhi q1 q2
              refine .pure hS (v := .string (b.extract (loN l) (hiN hh b.size))) (by simp [execOp, ho, Instr.sliceAt, Instr.slice, run_underlying d1, hy.1, hb]) hk ?_
              simp only [RV, RD, true_and]
              rw [ByteArray.size_extract]
              have := hy.2
              omega
            cases l with
            | none =>
              cases hh with
              | none => exact fin (by simp) (by simp) h6
              | some q => exact fin (by intro q' e; cases e; exact ⟨h6.1, h6.2.1⟩) (by simp) h6.2.2
            | some p =>
              cases hh with
              | none => exact fin (by simp) (by intro q' e; cases e; exact ⟨h6.1, h6.2.1⟩) h6.2.2
              | some q =>
                obtain ⟨q1, q2, q3, q4⟩ := h6
                exact fin (by intro q' e; cases e; exact ⟨by omega, q3⟩) (by intro q' e; cases e; simp only [hiN]; omega) q4
          | _ => exact h6.elim
        | _ => exact h6.elim
  | _ => rw [hk] at h6; exact h6.elim
end
end Go.DL
