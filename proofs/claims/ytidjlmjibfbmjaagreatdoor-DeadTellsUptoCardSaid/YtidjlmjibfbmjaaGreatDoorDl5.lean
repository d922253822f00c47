/- Soundness of the evaluator, operations that write or make memory. -/
import Derived.Test.YtidjlmjibfbmjaaGreatDoorDl4
namespace Go.DL
open Go.RowKit

section pointwise
variable {g : Nat → Prop} {w : World}
theorem RDs_iff : ∀ {xs : List D} {blk off : Nat}, RDs g w xs blk off ↔ ∀ (j : Nat) (x : D), xs[j]? = some x → ∃ u, w.cell? ⟨blk, off + j, none⟩ = some u ∧ RD g w x u
  | [], _, _ => by simp [RDs]
  | x :: xs, blk, off => by
    simp only [RDs]
    rw [RDs_iff]
    constructor
    · rintro ⟨h1, h2⟩ j y hy
      cases j with
      | zero => simp at hy; subst hy; simpa using h1
      | succ j =>
        have := h2 j y (by simpa using hy)
        rw [show off + (j + 1) = off + 1 + j by omega]
        exact this
    · intro h
      refine ⟨by simpa using h 0 x (by simp), fun j y hy => ?_⟩
      have := h (j + 1) y (by simpa using hy)
      rw [show off + 1 + j = off + (j + 1) by omega]
      exact this
theorem RDrows_iff {es : Nat} : ∀ {els : List (List D)} {blk off : Nat}, RDrows g w es els blk off ↔ ∀ (i : Nat) (row : List D), els[i]? = some row → row.length = es ∧ RDs g w row blk (off + i * es)
  | [], _, _ => by simp [RDrows]
  | r :: rs, blk, off => by
    constructor
    · intro h i row hr
      exact h.get hr
    · intro h
      simp only [RDrows]
      have h0 := h 0 r (by simp)
      refine ⟨h0.1, by simpa using h0.2, RDrows_iff.2 fun i row hr => ?_⟩
      have := h (i + 1) row (by simpa using hr)
      rw [show off + es + i * es = off + (i + 1) * es by rw [Nat.add_mul]; omega]
      exact this
end pointwise

/-- a row of cells, a part of which is written -/
theorem cell_seg {w : World} {blk : Nat} {cur : Array Value} {T : Nat} (h : w.heap[blk]? = some (.cells cur T (0, 0))) (p : Nat) (vs : List Value) (hp : p + vs.length ≤ cur.size) (q : Nat) :
    (w.setRow blk (cur.toList.take p ++ vs ++ cur.toList.drop (p + vs.length)).toArray).cell? ⟨blk, q, none⟩ =
      if p ≤ q ∧ q < p + vs.length then vs[q - p]? else w.cell? ⟨blk, q, none⟩ := by
  rw [cell_setRow_same w blk q cur _ T (0, 0) h, cell_of_row w blk q cur T (0, 0) h]
  simp only [List.getElem?_toArray]
  split
  · rename_i hq
    rw [List.append_assoc, List.getElem?_append_right (by simp; omega), List.getElem?_append_left (by simp; omega)]
    congr 1
    simp
    omega
  · rename_i hq
    by_cases hlt : q < p
    · rw [List.append_assoc, List.getElem?_append_left (by simp; omega), List.getElem?_take_of_lt hlt]
      simp
    · rw [List.getElem?_append_right (by simp; omega), List.getElem?_drop]
      simp only [List.length_append, List.length_take]
      have : p + vs.length + (q - (min p cur.toList.length + vs.length)) = q := by
        simp only [Array.length_toList]
        omega
      rw [this]
      simp
theorem row_ne {i idx es j k : Nat} (hj : j < es) (hk : k < es) (h : i * es + j = idx * es + k) : i = idx := by
  have h1 : (i * es + j) / es = i := by rw [Nat.mul_comm, Nat.mul_add_div (by omega), Nat.div_eq_of_lt hj]; omega
  have h2 : (idx * es + k) / es = idx := by rw [Nat.mul_comm, Nat.mul_add_div (by omega), Nat.div_eq_of_lt hk]; omega
  rw [← h1, ← h2, h]

section
variable {G : Nat → Prop} {wb : World} {ρ : List Loc} {H : List Ob} {w : World}
theorem toDsK_out : ∀ {xs : List A} {H : List Ob} {vs : List Value}, SimH G wb ρ H w → RVs ρ H (gd G ρ H) w xs vs → ∀ {K : List D → List Ob → Prop}, toDsK xs H K →
    ∃ ds H', K ds H' ∧ SimH G wb ρ H' w ∧ RVs ρ H' (gd G ρ H') w (mapD ds) vs ∧ Step ρ H w ρ H' w
  | [], H, _, hS, hv, K, h => by
    simp only [RVs] at hv
    subst hv
    exact ⟨[], H, h, hS, by simp [mapD, RVs], .refl _ _ _⟩
  | x :: xs, H, _, hS, hv, K, h => by
    simp only [RVs] at hv
    obtain ⟨v, r, rfl, h1, h2⟩ := hv
    simp only [toDsK] at h
    obtain ⟨y, H1, k1, s1, r1, t1⟩ := toDK_out hS h1 h
    obtain ⟨ds, H2, k2, s2, r2, t2⟩ := toDsK_out s1 (t1.rvs hS.len h2) k1
    refine ⟨y :: ds, H2, k2, s2, ?_, t1.trans t2⟩
    simp only [mapD, RVs]
    exact ⟨v, r, rfl, by simp only [RV]; exact t2.rd r1, r2⟩
theorem RVs_mapD_get {g : Nat → Prop} : ∀ {ds : List D} {vs : List Value}, RVs ρ H g w (mapD ds) vs → ∀ {j : Nat} {x : D}, ds[j]? = some x → ∃ u, vs[j]? = some u ∧ RD g w x u
  | [], _, _, _, _, hx => by simp at hx
  | d :: ds, _, h, j, x, hx => by
    simp only [mapD, RVs] at h
    obtain ⟨v, r, rfl, h1, h2⟩ := h
    cases j with
    | zero => simp at hx; subst hx; exact ⟨v, by simp, by simpa only [RV] using h1⟩
    | succ j => simpa using RVs_mapD_get h2 (by simpa using hx)
theorem RV.oneCell {g : Nat → Prop} {x : A} {v : Value} (h : RV ρ H g w x v) (h1 : x.one = true) : v.oneCell' = true := by
  cases x with
  | undef => simp [A.one] at h1
  | agg cs => simp [A.one] at h1
  | tup cs => simp [A.one] at h1
  | d x =>
    cases x <;> simp only [RV, RD] at h
    · subst h; rfl
    · obtain ⟨rfl, _⟩ := h; rfl
    · obtain ⟨rfl, _⟩ := h; rfl
    · obtain ⟨a, c, es, rfl, _⟩ := h; rfl
  | ptr o q => simp only [RV] at h; obtain ⟨⟨a, rfl⟩, _⟩ := h; rfl
  | fp r => simp only [RV] at h; obtain ⟨b, o, rfl, _⟩ := h; rfl
  | vp o gn i q => simp only [RV] at h; obtain ⟨⟨a, rfl⟩, _⟩ := h; rfl
  | vs o gn q => simp only [RV] at h; obtain ⟨⟨a, n, c, rfl⟩, _⟩ := h; rfl
  | es => simp only [RV] at h; obtain ⟨a, rfl⟩ := h; rfl
  | fn f x y => simp only [RV] at h; obtain ⟨a, b, rfl, _⟩ := h; rfl
  | nilp => simp only [RV] at h; subst h; rfl
  | nilf => simp only [RV] at h; subst h; rfl
  | mp o => simp only [RV] at h; obtain ⟨⟨a, rfl⟩, _⟩ := h; rfl
  | nilm => simp only [RV] at h; subst h; rfl
theorem mapD_one {g : Nat → Prop} : ∀ {ds : List D} {vs : List Value}, RVs ρ H g w (mapD ds) vs → ∀ v ∈ vs, v.oneCell' = true
  | [], _, h => by simp only [mapD, RVs] at h; subst h; simp
  | d :: ds, _, h => by
    simp only [mapD, RVs] at h
    obtain ⟨v, r, rfl, h1, h2⟩ := h
    intro u hu
    rcases List.mem_cons.1 hu with rfl | hu
    · exact h1.oneCell rfl
    · exact mapD_one h2 u hu
theorem allOne_out {g : Nat → Prop} : ∀ {xs : List A} {vs : List Value} {p : Prop}, RVs ρ H g w xs vs → allOne xs p → p ∧ ∀ v ∈ vs, v.oneCell' = true
  | [], _, _, h, hp => by simp only [RVs] at h; subst h; exact ⟨hp, by simp⟩
  | x :: xs, _, p, h, hp => by
    simp only [RVs] at h
    obtain ⟨v, r, rfl, h1, h2⟩ := h
    simp only [allOne] at hp
    split at hp
    · rename_i e
      obtain ⟨k1, k2⟩ := allOne_out h2 hp
      refine ⟨k1, fun u hu => ?_⟩
      rcases List.mem_cons.1 hu with rfl | hu
      · exact h1.oneCell e
      · exact k2 u hu
    · exact hp.elim
theorem allOne_one : ∀ {xs : List A} {p : Prop}, allOne xs p → ∀ x ∈ xs, x.one = true
  | [], _, _ => by simp
  | x :: xs, p, hp => by
    simp only [allOne] at hp
    split at hp
    · rename_i e
      intro y hy
      rcases List.mem_cons.1 hy with rfl | hy
      · exact e
      · exact allOne_one hp y hy
    · exact hp.elim
end

section ops
variable {P : Program} {wb : World} {Θ : List (Nat × TI)} {G : Nat → Prop} {ρ : List Loc} {H : List Ob} {w : World} {a : Act} {env : List A} {K : A → List Ob → Prop}

theorem run_storeAt {o : Oper} {t : Nat} {ti : TI} (hti : TIok P t ti) {x y : Operand} (ho : o.op = .store t x y) {blk off : Nat} {cur : Array Value} {T : Nat}
    (hx : a.eval x = .pointer (some ⟨blk, off, none⟩)) (hh : w.heap[blk]? = some (.cells cur T (0, 0))) (hsz : (a.eval y).cells.toList.length = ti.size)
    (hp : off + (a.eval y).cells.toList.length ≤ cur.size) (h1 : ∀ v ∈ (a.eval y).cells.toList, v.oneCell' = true) :
    (execOp a.eval o).run P w = .ok .skip (w.setRow blk (cur.toList.take off ++ (a.eval y).cells.toList ++ cur.toList.drop (off + (a.eval y).cells.toList.length)).toArray) := by
  have hst := run_storeCells_at P blk off T (a.eval y).cells.toList 0 cur w hh (by simpa using hp) h1
  simp only [Nat.add_zero] at hst
  have hs : (a.eval y).cells.size = ti.size := by simpa using hsz
  simp only [execOp, ho]
  simp [Instr.storeAt, Instr.sureAddr, hx, storeVar, hti.run_sizeOf, hs, hst]

theorem step_row (hS : SimH G wb ρ H w) {o : Nat} {l : Loc} {ob ob' : Ob} (ho : ρ[o]? = some l) (hob : H[o]? = some ob) (hw : ob.owns l) (ht : Turns ob ob' l l) (cs : Array Value) :
    Step ρ H w ρ (H.set o ob') (w.setRow l.blk cs) := by
  have := step_set (w' := w.setRow l.blk cs) (l' := l) (ob' := ob') hS ho hob rfl rfl rfl (by simp) (fun b _ hb => setRow_other w l.blk b cs (hb hw)) ht (fun _ => .inl ⟨rfl, hw⟩)
  rwa [set_self ho] at this
theorem sim_row (hS : SimH G wb ρ H w) {o : Nat} {l : Loc} {ob ob' : Ob} (ho : ρ[o]? = some l) (hob : H[o]? = some ob) (hw : ob.owns l) (ht : Turns ob ob' l l) (cs : Array Value)
    (hok : ObOk ρ (H.set o ob') (gd G ρ (H.set o ob')) (w.setRow l.blk cs) l ob') : SimH G wb ρ (H.set o ob') (w.setRow l.blk cs) := by
  have := sim_set (w' := w.setRow l.blk cs) (l' := l) (ob' := ob') hS ho hob rfl rfl rfl (by simp) (fun b _ hb => setRow_other w l.blk b cs (hb hw)) ht (fun _ => .inl ⟨rfl, hw⟩) (by rw [set_self ho]; exact hok)
  rwa [set_self ho] at this

/-- a vector one row of which is written -/
theorem vec_write (hS : SimH G wb ρ H w) {o gn es idx off : Nat} {l : Loc} {els : List (List A)} (ho : ρ[o]? = some l) (hob : H[o]? = some (.vec gn es els)) {row ds : List A} {vs : List Value}
    (hrow : els[idx]? = some row) (hv : RVs ρ H (gd G ρ H) w ds vs) (hds : ∀ x ∈ ds, x.one = true) (hfit : off + ds.length ≤ es) {cur : Array Value} {T : Nat} (hh : w.heap[l.blk]? = some (.cells cur T (0, 0)))
    (hcap : 0 < l.cap) :
    SimH G wb ρ (H.set o (.vec gn es (els.set idx (row.take off ++ ds ++ row.drop (off + ds.length))))) (w.setRow l.blk (cur.toList.take (l.off + idx * es + off) ++ vs ++ cur.toList.drop (l.off + idx * es + off + vs.length)).toArray) ∧
    Step ρ H w ρ (H.set o (.vec gn es (els.set idx (row.take off ++ ds ++ row.drop (off + ds.length))))) (w.setRow l.blk (cur.toList.take (l.off + idx * es + off) ++ vs ++ cur.toList.drop (l.off + idx * es + off + vs.length)).toArray) := by
  have hok := hS.ok _ _ _ ho hob
  simp only [ObOk] at hok
  obtain ⟨k1, k2, k3, k4, k5⟩ := hok
  obtain ⟨cur', T', hh', hsz⟩ := k4 hcap
  rw [hh] at hh'
  cases hh'
  have hlt : idx < els.length := by
    rcases Nat.lt_or_ge idx els.length with h' | h'
    · exact h'
    · rw [List.getElem?_eq_none h'] at hrow; cases hrow
  have hvl : vs.length = ds.length := hv.length
  obtain ⟨hrl, hr⟩ := k5.get hrow
  have hle : (idx + 1) * es ≤ l.cap * es := Nat.mul_le_mul_right _ (by omega)
  rw [Nat.add_mul] at hle
  have ht : Turns (.vec gn es els) (.vec gn es (els.set idx (row.take off ++ ds ++ row.drop (off + ds.length)))) l l :=
    .inr ⟨gn, _, rfl, Nat.le_refl _, fun _ => ⟨by simp, rfl⟩⟩
  have hs := step_row hS ho hob (show 0 < l.cap from hcap) ht (cur.toList.take (l.off + idx * es + off) ++ vs ++ cur.toList.drop (l.off + idx * es + off + vs.length)).toArray
  have hseg := cell_seg hh (l.off + idx * es + off) vs (by omega)
  refine ⟨sim_row hS ho hob hcap ht _ ?_, hs⟩
  simp only [ObOk]
  refine ⟨by simpa using k1, k2, k3, fun _ => ⟨_, T, setRow_heap w l.blk cur _ T (0, 0) hh, ?_⟩, ?_⟩
  · simp only [List.size_toArray, List.length_append, List.length_take, List.length_drop, Array.length_toList]
    omega
  · rw [RVrows_iff] at k5 ⊢
    intro i row' hr'
    rw [List.getElem?_set] at hr'
    by_cases e : idx = i
    · subst e
      simp only [if_true, hlt] at hr'
      cases hr'
      refine ⟨by simp; omega, ?_⟩
      rw [RVcells_iff] at hr ⊢
      intro j x hx
      rw [hseg]
      by_cases h1 : j < off
      · rw [if_neg (by omega)]
        rw [List.append_assoc, List.getElem?_append_left (by simp; omega), List.getElem?_take_of_lt h1] at hx
        obtain ⟨ho1, u, hu, hxu⟩ := hr j x hx
        exact ⟨ho1, u, hu, hs.rv hS.len hxu⟩
      · by_cases h2 : j < off + ds.length
        · rw [if_pos (by omega)]
          rw [List.append_assoc, List.getElem?_append_right (by simp; omega), List.getElem?_append_left (by simp; omega)] at hx
          have e1 : j - (List.take off row).length = j - off := by simp; omega
          rw [e1] at hx
          obtain ⟨u, hu, hxu⟩ := hv.get hx
          refine ⟨hds _ (List.mem_of_getElem? hx), u, ?_, hs.rv hS.len hxu⟩
          rw [← hu]
          congr 1
          omega
        · rw [if_neg (by omega)]
          rw [List.getElem?_append_right (by simp; omega), List.getElem?_drop] at hx
          have e1 : off + ds.length + (j - (List.take off row ++ ds).length) = j := by simp; omega
          rw [e1] at hx
          obtain ⟨ho1, u, hu, hxu⟩ := hr j x hx
          exact ⟨ho1, u, hu, hs.rv hS.len hxu⟩
    · rw [if_neg e] at hr'
      obtain ⟨hl', hr2⟩ := k5 i row' hr'
      refine ⟨hl', ?_⟩
      rw [RVcells_iff] at hr2 ⊢
      intro j x hx
      have hj : j < es := by
        rcases Nat.lt_or_ge j row'.length with h' | h'
        · omega
        · rw [List.getElem?_eq_none h'] at hx; cases hx
      rw [hseg, if_neg ?_]
      · obtain ⟨ho1, u, hu, hxu⟩ := hr2 j x hx
        exact ⟨ho1, u, hu, hs.rv hS.len hxu⟩
      · rintro ⟨h1, h2⟩
        have h3 : l.off + i * es + j - (l.off + idx * es) < es := by omega
        exact e (row_ne (k := l.off + i * es + j - (l.off + idx * es)) hj h3 (by omega)).symm

theorem out_store (hΘ : ΘOk P Θ) (hS : SimH G wb ρ H w) (hE : RVs ρ H (gd G ρ H) w env a.tmps.toList) {o : Oper} {t : Nat} {x y : Operand} (ho : o.op = .store t x y)
    (h : opD P wb Θ (.store t x y) env H K) : OpOut P G wb ρ H w K ((execOp a.eval o).run P w) := by
  simp only [opD] at h
  obtain ⟨ti, h1, h2⟩ := tiK_out _ _ _ h
  have hti := hΘ _ _ h1
  obtain ⟨xa, h3, hx⟩ := evK_out hE h2
  obtain ⟨ya, h4, hy⟩ := evK_out hE h3
  obtain ⟨vc, h5, hv⟩ := cellsK_out hy h4
  obtain ⟨hlen, h6⟩ := lenIs_out _ _ _ h5
  have hvl := hv.length
  clear h h2 h3 h4 h5
  cases xa with
  | ptr ob off =>
    obtain ⟨h7, hone⟩ := allOne_out hv h6
    obtain ⟨obj, hob, h8⟩ := getO_out _ _ _ h7
    cases obj with
    | box cs =>
      obtain ⟨hfit, h9⟩ := wrK_out _ _ _ _ h8
      have h9 := setK_out _ _ _ _ h9
      simp only [RV] at hx
      obtain ⟨l, hl, ex⟩ := hx.2.2 _ hob
      have hok := hS.ok _ _ _ hl hob
      simp only [ObOk] at hok
      obtain ⟨vs, T, hh, hcs⟩ := hok
      have hcl := hcs.length
      rw [Array.length_toList] at hcl
      rw [run_storeAt hti ho ex hh (by omega) (by omega) hone]
      have ht : Turns (.box cs) (.box (cs.take off ++ vc ++ cs.drop (off + vc.length))) l l := .inr ⟨⟨_, rfl⟩, rfl⟩
      have hs := step_row hS hl hob trivial ht (vs.toList.take off ++ (a.eval y).cells.toList ++ vs.toList.drop (off + (a.eval y).cells.toList.length)).toArray
      refine .skip _ ⟨_, _, _, h9, ?_, by simp [RV], hs⟩
      refine sim_row hS hl hob trivial ht _ ?_
      simp only [ObOk]
      refine ⟨_, T, setRow_heap w l.blk vs _ T (0, 0) hh, ?_⟩
      refine hs.rvs hS.len ?_
      have e : (a.eval y).cells.toList.length = vc.length := hvl
      simp only [e]
      exact ((hcs.take off).append hv).append (hcs.drop _)
    | _ => exact h8.elim
  | vp ob gn idx off =>
    obtain ⟨h7, hone⟩ := allOne_out hv h6
    have hone' := allOne_one h6
    obtain ⟨obj, hob, h8⟩ := getO_out _ _ _ h7
    cases obj with
    | vec g' es els =>
      obtain ⟨e, h9⟩ := h8
      subst e
      simp only [RV] at hx
      obtain ⟨_, hx2⟩ := hx.2.2 _ _ _ hob
      obtain ⟨l, hl, hi, ex⟩ := hx2 rfl
      have hok := hS.ok _ _ _ hl hob
      simp only [ObOk] at hok
      have hcap : 0 < l.cap := by have := hok.1; clear hx hx2; omega
      obtain ⟨cur, T, hh, hsz⟩ := hok.2.2.2.1 hcap
      have hdl : (a.eval y).cells.toList.length = vc.length := hvl
      have hrow : els[idx]? = some els[idx] := by simp
      have hrl : (els[idx]).length = es := (hok.2.2.2.2.get hrow).1
      have hle : (idx + 1) * es ≤ l.cap * es := Nat.mul_le_mul_right _ (by have := hok.1; clear hx hx2; omega)
      rw [Nat.add_mul] at hle
      have fin : off + vc.length ≤ es → K .undef (H.set ob (.vec gn es (els.set idx (els[idx].take off ++ vc ++ els[idx].drop (off + vc.length))))) →
          OpOut P G wb ρ H w K ((execOp a.eval o).run P w) := by
        intro hfit hk
        rw [run_storeAt hti ho ex hh (by omega) (by clear hx hx2; omega) hone]
        obtain ⟨s2, t2⟩ := vec_write hS hl hob hrow hv hone' hfit hh hcap
        exact .skip _ ⟨_, _, _, hk, s2, by simp [RV], t2⟩
      have hdl2 : vc.length = ti.size := hlen
      split at h9
      · rename_i e
        simp only [Bool.and_eq_true] at e
        have e1 := Nat.eq_of_beq_eq_true e.1
        have e2 := Nat.eq_of_beq_eq_true e.2
        have h9 := setK_out _ _ _ _ h9
        refine fin (by omega) ?_
        subst e1
        have e3 : List.drop (0 + vc.length) els[idx] = [] := List.drop_eq_nil_of_le (by omega)
        rw [e3]
        simpa using h9
      · obtain ⟨row, hrow', h9⟩ := h9
        rw [hrow] at hrow'
        cases hrow'
        obtain ⟨hfit, h9⟩ := wrK_out _ _ _ _ h9
        have h9 := setK_out _ _ _ _ h9
        exact fin (by omega) h9
    | _ => exact h8.elim
  | _ => exact h6.elim

/-- a new vector in a new block -/
theorem new_vec (hS : SimH G wb ρ H w) {w' : World} (h1 : w'.os = w.os) (h2 : w'.tape = w.tape) (h3 : w'.output = w.output) (h4 : w.heap.size < w'.heap.size)
    (h5 : ∀ b, b < w.heap.size → w'.heap[b]? = w.heap[b]?) {cur : Array Value} {T cap es : Nat} {rows : List (List A)} (hh : w'.heap[w.heap.size]? = some (.cells cur T (0, 0)))
    (hcap : cap * es ≤ cur.size) (hlen : rows.length ≤ cap) (hm : cap ≤ maxLen) (hes : 0 < es)
    (hrows : ∀ (i : Nat) (row : List A), rows[i]? = some row → row.length = es ∧ ∀ (j : Nat) (x : A), row[j]? = some x → x.one = true ∧ ∃ u, cur[i * es + j]? = some u ∧ RV ρ H (gd G ρ H) w x u)
    (hk : K (.vs H.length 0 0) (H ++ [.vec 0 es rows])) :
    OpRes G wb ρ H w K (.slice (some ⟨w.heap.size, 0, none⟩) rows.length cap) w' := by
  have hs := step_push (w' := w') hS ⟨w.heap.size, 0, cap⟩ (.vec 0 es rows) h1 h2 h3 (Nat.le_of_lt h4) h5 (fun _ => ⟨Nat.le_refl _, h4⟩)
  refine ⟨_, ρ ++ [⟨w.heap.size, 0, cap⟩], _, hk, ?_, ?_, hs⟩
  · refine sim_push hS _ _ h1 h2 h3 (Nat.le_of_lt h4) h5 (fun _ => ⟨Nat.le_refl _, h4⟩) ?_
    simp only [ObOk]
    refine ⟨hlen, hm, hes, fun _ => ⟨cur, T, hh, by omega⟩, ?_⟩
    rw [RVrows_iff]
    intro i row hr
    obtain ⟨k1, k2⟩ := hrows i row hr
    refine ⟨k1, ?_⟩
    rw [RVcells_iff]
    intro j x hx
    obtain ⟨ho1, u, hu, hxu⟩ := k2 j x hx
    refine ⟨ho1, u, ?_, hs.rv hS.len hxu⟩
    rw [cell_of_row w' _ _ cur T (0, 0) hh, Nat.zero_add]
    exact hu
  · simp only [RV]
    refine ⟨⟨_, _, _, rfl⟩, by simp, fun gc es' els' hc => ?_⟩
    rw [getElem?_snoc, if_neg (by omega), if_pos rfl] at hc
    cases hc
    refine ⟨Nat.le_refl _, fun _ => ⟨⟨w.heap.size, 0, cap⟩, some ⟨w.heap.size, 0, none⟩, ?_, Nat.zero_le _, by simp, fun _ => by simp⟩⟩
    rw [getElem?_snoc, hS.len, if_neg (by omega), if_pos rfl]

theorem madeCells_get (z : Array Value) (m es i j : Nat) (hz : z.size = es) (hi : i < m) (hj : j < es) : (madeCells z (m * es))[i * es + j]? = z[j]? := by
  have hlt : i * es + j < m * es := by
    have : (i + 1) * es ≤ m * es := Nat.mul_le_mul_right _ hi
    rw [Nat.add_mul] at this
    omega
  have hmod : (i * es + j) % z.size = j := by rw [hz, Nat.mul_comm, Nat.mul_add_mod, Nat.mod_eq_of_lt hj]
  unfold madeCells
  rw [Array.getElem?_map, Array.getElem?_range, if_pos hlt]
  simp only [Option.map_some, hmod]
  rw [getElem!_pos z j (by omega), Array.getElem?_eq_getElem (by omega)]

theorem out_makeSlice (hΘ : ΘOk P Θ) (hS : SimH G wb ρ H w) (hE : RVs ρ H (gd G ρ H) w env a.tmps.toList) {o : Oper} {t : Nat} {x y : Operand} (ho : o.op = .makeSlice t x y)
    (h : opD P wb Θ (.makeSlice t x y) env H K) : OpOut P G wb ρ H w K ((execOp a.eval o).run P w) := by
  simp only [opD] at h
  obtain ⟨ti, h1, h2⟩ := tiK_out _ _ _ h
  have hti := hΘ _ _ h1
  clear h
  cases hk : ti.k with
  | slice e =>
    rw [hk] at h2
    obtain ⟨te, he, h3⟩ := tiK_out _ _ _ h2
    obtain ⟨xa, h4, hx⟩ := evK_out hE h3
    cases xa with
    | d xd =>
      cases xd with
      | i kl ln =>
        obtain ⟨ya, h5, hy⟩ := evK_out hE h4
        cases ya with
        | d yd =>
          cases yd with
          | i kc cn =>
            simp only [intK] at h5
            obtain ⟨i, z, e1, e2, e3, e4, e5, e6, e7⟩ := (hΘ _ _ he).info
            have hz := e6 ρ H (gd G ρ H) w
            have hone' := allOne_one h5
            obtain ⟨⟨m, k, rfl, rfl, c1, c2, c3, c4, h6⟩, _⟩ := allOne_out hz h5
            have h6 := snocK_out _ _ _ (lenK_out _ _ _ h6)
            rw [Nat.zero_add] at h6
            simp only [RV, RD] at hx hy
            have c5 : (k : Int) ≤ 9223372036854775807 := by simp only [maxLen] at c3; omega
            have c6 : (i.bytes : Int) * (k : Int) ≤ 281474976710656 := by
              rw [e3]
              have : ((te.bytes * k : Nat) : Int) ≤ 281474976710656 := by rw [Nat.mul_comm]; omega
              rwa [Int.natCast_mul] at this
            have hr := run_make (P := P) w t e i z (hti.slice hk) e1 e4 kl kc m k (by omega) (by omega) c6 c5
            simp only [Int.toNat_natCast] at hr
            have : (execOp a.eval o).run P w = .ok (.value (.slice (some ⟨w.heap.size, 0, none⟩) m k)) (w.alloc (.cells (madeCells z.cells (k * i.size)) e)) := by
              simp [execOp, ho, hx.1, hy.1, hr]
            rw [this]
            have hzl : te.zero.length = te.size := by
              have := hz.length
              rw [Array.length_toList] at this
              omega
            refine .val _ _ ?_
            have := new_vec (K := K) (w' := w.alloc (.cells (madeCells z.cells (k * i.size)) e)) (cap := k) (es := te.size) (rows := List.replicate m te.zero) hS rfl rfl rfl (by simp) (fun b hb => heap_alloc_lt w _ b hb) (heap_alloc_new w _)
              (by rw [size_madeCells, e2]; exact Nat.le_refl _) (by simpa using c1) c3 c4 ?_ h6
            · obtain ⟨xx, ρ2, H2, k1, k2, k3, k4⟩ := this
              exact ⟨xx, ρ2, H2, k1, k2, by simpa using k3, k4⟩
            · intro ii row hr
              rw [List.getElem?_replicate] at hr
              split at hr
              · cases hr
                refine ⟨hzl, fun j x hxx => ?_⟩
                have hj : j < te.size := by
                  rcases Nat.lt_or_ge j te.zero.length with h' | h'
                  · omega
                  · rw [List.getElem?_eq_none h'] at hxx; cases hxx
                obtain ⟨u, hu, hxu⟩ := hz.get hxx
                refine ⟨hone' _ (List.mem_of_getElem? hxx), u, ?_, hxu⟩
                rw [e2, madeCells_get z.cells k te.size ii j e5 (by omega) hj]
                simpa using hu
              · cases hr
          | _ => exact h5.elim
        | _ => exact h5.elim
      | _ => exact h4.elim
    | _ => exact h4.elim
  | _ => rw [hk] at h2; exact h2.elim
end ops
end Go.DL
