/- Soundness of the evaluator, operation by operation. -/
import Derived.Test.YtidjlmjibfbmjaaGreatDoorDl3
import Derived.WalkSpells
import Derived.Lib.SliceRun
namespace Go.DL
open Go.RowKit

theorem add_off (b o j : Nat) : (⟨b, o, none⟩ : Addr).add j = ⟨b, o + j, none⟩ := by
  unfold Addr.add
  split
  · rename_i h; subst h; rfl
  · rfl

def kindOk : TK → TypeDesc → Prop
  | .int k, d => d = .int k
  | .bool, d => d = .bool
  | .str, d => d = .string
  | .slice e, d => d = .slice e
  | .struct fs, d => ∃ fields : Array Field, d = .struct fields ∧ fields.toList.map (fun f => (f.offset, f.type)) = fs
  | .arr n e, d => d = .array n e
  | .ptr e, d => d = .pointer e
  | .map k e, d => d = .map k e
  | .fn, d => ∃ a b c, d = .func a b c
  | .other, _ => False

structure TIok (P : Program) (t : Nat) (ti : TI) : Prop where
  info : ∃ i z, P.info? t = some i ∧ i.size = ti.size ∧ i.bytes = ti.bytes ∧ i.zero = some z ∧ z.cells.size = ti.size ∧
    (∀ ρ H g w, RVs ρ H g w ti.zero z.cells.toList) ∧ (if ti.k.agg then ∃ cs, z = .agg cs else z.cells = #[z])
  und : ∃ d, P.underlying t = some d ∧ kindOk ti.k d
  flds : ∀ fs, ti.k = .struct fs → ∀ p ∈ fs, ∃ i, P.info? p.2 = some i
def ΘOk (P : Program) (Θ : List (Nat × TI)) : Prop := ∀ t ti, (t, ti) ∈ Θ → TIok P t ti

section
variable {P : Program} {t : Nat} {ti : TI} (w : World)
theorem TIok.run_isAgg (h : TIok P t ti) : (isAgg t).run P w = .ok ti.k.agg w := by
  obtain ⟨d, h1, h2⟩ := h.und
  cases hk : ti.k <;> rw [hk] at h2 <;> simp only [kindOk] at h2
  case struct fs => obtain ⟨f, rfl, _⟩ := h2; simp [isAgg, run_underlying h1, TK.agg]
  case fn => obtain ⟨a, b, c, rfl⟩ := h2; simp [isAgg, run_underlying h1, TK.agg]
  all_goals (subst h2; simp [isAgg, run_underlying h1, TK.agg])
theorem TIok.run_sizeOf (h : TIok P t ti) : (sizeOf t).run P w = .ok ti.size w := by
  obtain ⟨i, z, h1, h2, _⟩ := h.info
  simp [sizeOf, typeInfo, h1, h2]
theorem TIok.slice {e : Nat} (h : TIok P t ti) (hk : ti.k = .slice e) : P.underlying t = some (.slice e) := by
  obtain ⟨d, h1, h2⟩ := h.und
  rw [hk] at h2
  simp only [kindOk] at h2
  subst h2
  exact h1
end

section vals
variable {ρ : List Loc} {H : List Ob} {g : Nat → Prop} {w : World}
/-- what a load of type t gives of cells that stand at an address -/
theorem ldA_out {P : Program} {t : Nat} {ti : TI} (hti : TIok P t ti) {cs : List A} {vs : List Value} (hv : RVs ρ H g w cs vs) {blk base : Nat}
    (hc : ∀ j u, vs[j]? = some u → w.cell? ⟨blk, base + j, none⟩ = some u) {off : Nat} {K : A → Prop} (h : ldA ti cs off K) :
    ∃ x v, K x ∧ RV ρ H g w x v ∧ (loadVar t ⟨blk, base + off, none⟩).run P w = .ok v w := by
  unfold ldA at h
  obtain ⟨hl, h⟩ := dropK_out _ _ _ h
  have hd := hv.drop off
  have hcd : ∀ j u, (vs.drop off)[j]? = some u → w.cell? ((⟨blk, base + off, none⟩ : Addr).add j) = some u := by
    intro j u hu
    rw [List.getElem?_drop] at hu
    rw [add_off, Nat.add_assoc]
    exact hc _ u hu
  split at h
  · rename_i hagg
    obtain ⟨hl2, h⟩ := takeK_out _ _ _ h
    have ht := hd.take ti.size
    refine ⟨_, .agg ((vs.drop off).take ti.size).toArray, h, ?_, ?_⟩
    · simp only [RV]
      exact ⟨_, rfl, by simpa using ht⟩
    · have hlen : ((vs.drop off).take ti.size).length = ti.size := by
        have := hd.length
        rw [List.length_take, this]
        omega
      have := run_loadCells_list (P := P) w ⟨blk, base + off, none⟩ ((vs.drop off).take ti.size) (fun j u hu => hcd j u (by
        rw [List.getElem?_take] at hu
        split at hu
        · exact hu
        · cases hu))
      rw [hlen] at this
      simp [loadVar, hti.run_isAgg, hti.run_sizeOf, hagg, this]
  · rename_i hagg
    split at h
    · rename_i x xs hx
      rw [hx] at hd
      simp only [RVs] at hd
      obtain ⟨v, r, hr, h1, _⟩ := hd
      refine ⟨x, v, h, h1, ?_⟩
      have := hcd 0 v (by rw [hr]; rfl)
      rw [add_off, Nat.add_zero] at this
      simp [loadVar, hti.run_isAgg, hagg, this]
    · exact h.elim
theorem mapD_take (xs : List D) : ∀ n, mapD (xs.take n) = (mapD xs).take n := by
  induction xs with
  | nil => intro n; cases n <;> rfl
  | cons x xs ih =>
    intro n
    cases n with
    | zero => rfl
    | succ n => simp [mapD, ih]
theorem ldD_ldA {ti : TI} {row : List D} {K : A → Prop} (h : ldD ti row K) : ldA ti (mapD row) 0 K := by
  unfold ldD at h
  unfold ldA
  have : ∀ l : List A, dropK l 0 = fun K => K l := by intro l; cases l <;> rfl
  rw [this]
  show match ti.k.agg with
    | true => takeK (mapD row) ti.size fun r => K (.agg r)
    | false => _
  split at h
  · rename_i e
    obtain ⟨hl, h⟩ := takeK_out _ _ _ h
    rw [e]
    have key : ∀ (l : List A) (n : Nat) (K : List A → Prop), n ≤ l.length → K (l.take n) → takeK l n K := by
      intro l
      induction l with
      | nil => intro n K hn hk; cases n with | zero => simpa [takeK] using hk | succ n => simp at hn
      | cons x xs ih => intro n K hn hk; cases n with
        | zero => simpa [takeK] using hk
        | succ n => simp only [takeK]; exact ih n _ (by simpa using hn) (by simpa using hk)
    exact key _ _ _ (by rw [length_mapD]; exact hl) (by rw [← mapD_take]; exact h)
  · rename_i e
    rw [e]
    cases row with
    | nil => exact h
    | cons x xs => exact h
end vals

/-- what an operation has left -/
def OpRes (G : Nat → Prop) (wb : World) (ρ : List Loc) (H : List Ob) (w : World) (K : A → List Ob → Prop) (v : Value) (w' : World) : Prop :=
  ∃ x ρ' H', K x H' ∧ SimH G wb ρ' H' w' ∧ RV ρ' H' (gd G ρ' H') w' x v ∧ Step ρ H w ρ' H' w'
inductive OpOut (P : Program) (G : Nat → Prop) (wb : World) (ρ : List Loc) (H : List Ob) (w : World) (K : A → List Ob → Prop) : Result Next → Prop where
  | val (v : Value) (w' : World) (h : OpRes G wb ρ H w K v w') : OpOut P G wb ρ H w K (.ok (.value v) w')
  | skip (w' : World) (h : OpRes G wb ρ H w K undef w') : OpOut P G wb ρ H w K (.ok .skip w')
  | call (f : Nat) (args : Array Value) (h : Calls P f args w fun e w' => ∃ v, e = .returned v ∧ OpRes G wb ρ H w K v w') : OpOut P G wb ρ H w K (.ok (.enter f args) w)

section ops
variable {P : Program} {wb : World} {Θ : List (Nat × TI)} {G : Nat → Prop} {ρ : List Loc} {H : List Ob} {w : World} {a : Act} {env : List A} {K : A → List Ob → Prop}
theorem OpRes.same (hS : SimH G wb ρ H w) {x : A} {v : Value} (hk : K x H) (hx : RV ρ H (gd G ρ H) w x v) : OpRes G wb ρ H w K v w :=
  ⟨x, ρ, H, hk, hS, hx, .refl _ _ _⟩

theorem out_move (hS : SimH G wb ρ H w) (hE : RVs ρ H (gd G ρ H) w env a.tmps.toList) {x : Operand} (h : evK env x fun v => K v H) :
    OpOut P G wb ρ H w K (.ok (.value (a.eval x)) w) := by
  obtain ⟨y, h1, h2⟩ := evK_out hE h
  exact .val _ _ (.same hS h1 h2)

theorem new_box (hS : SimH G wb ρ H w) {cs : List A} {vs : Array Value} {T : Nat} (hv : RVs ρ H (gd G ρ H) w cs vs.toList) (hk : K (.ptr H.length 0) (H ++ [.box cs])) :
    OpRes G wb ρ H w K (.pointer (some ⟨w.heap.size, 0, none⟩)) (w.alloc (.cells vs T)) := by
  have hs := step_push (w' := w.alloc (.cells vs T)) hS ⟨w.heap.size, 0, 0⟩ (.box cs) rfl rfl rfl (by simp) (fun b hb => heap_alloc_lt w _ b hb) (fun _ => ⟨Nat.le_refl _, by simp⟩)
  refine ⟨_, ρ ++ [⟨w.heap.size, 0, 0⟩], _, hk, ?_, ?_, hs⟩
  · refine sim_push hS _ _ rfl rfl rfl (by simp) (fun b hb => heap_alloc_lt w _ b hb) (fun _ => ⟨Nat.le_refl _, by simp⟩) ?_
    simp only [ObOk]
    exact ⟨vs, T, heap_alloc_new w _, hs.rvs hS.len hv⟩
  · simp only [RV]
    refine ⟨⟨_, rfl⟩, by simp, fun cs' _ => ⟨⟨w.heap.size, 0, 0⟩, ?_, rfl⟩⟩
    rw [getElem?_snoc, hS.len, if_neg (by omega), if_pos rfl]

theorem out_alloc (hΘ : ΘOk P Θ) (hS : SimH G wb ρ H w) {o : Oper} {t : Nat} (ho : o.op = .alloc t)
    (h : tiK Θ t fun ti => lenK H 0 fun n => snocK H (.box ti.zero) fun H' => K (.ptr n 0) H') : OpOut P G wb ρ H w K ((execOp a.eval o).run P w) := by
  obtain ⟨ti, h1, h⟩ := tiK_out _ _ _ h
  obtain ⟨i, z, e1, e2, e3, e4, e5, e6, e7⟩ := (hΘ _ _ h1).info
  have h := snocK_out _ _ _ (lenK_out _ _ _ h)
  rw [Nat.zero_add] at h
  have : (execOp a.eval o).run P w = .ok (.value (.pointer (some ⟨w.heap.size, 0, none⟩))) (w.alloc (.cells z.cells t)) := by
    simp [execOp, ho, Instr.alloc, zeroValue, typeInfo, e1, e4, newVar, newRow]
  rw [this]
  exact .val _ _ (new_box hS (e6 _ _ _ _) h)

theorem out_box (hS : SimH G wb ρ H w) (hE : RVs ρ H (gd G ρ H) w env a.tmps.toList) {o : Oper} {t : Nat} {x : Operand} (ho : o.op = .box t x)
    (h : evK env x fun v => cellsK v fun cs => lenK H 0 fun n => snocK H (.box cs) fun H' => K (.ptr n 0) H') : OpOut P G wb ρ H w K ((execOp a.eval o).run P w) := by
  obtain ⟨y, h, hy⟩ := evK_out hE h
  obtain ⟨cs, h, hc⟩ := cellsK_out hy h
  have h := snocK_out _ _ _ (lenK_out _ _ _ h)
  rw [Nat.zero_add] at h
  have : (execOp a.eval o).run P w = .ok (.value (.pointer (some ⟨w.heap.size, 0, none⟩))) (w.alloc (.cells (a.eval x).cells t)) := by
    simp [execOp, ho, Instr.box, newVar, newRow]
  rw [this]
  exact .val _ _ (new_box hS hc h)

theorem cells_at {w : World} {blk : Nat} {vs : Array Value} {T : Nat} (h : w.heap[blk]? = some (.cells vs T (0, 0))) (o j : Nat) (u : Value) (hu : vs.toList[o + j]? = some u) : w.cell? ⟨blk, o + j, none⟩ = some u := by
  rw [cell_of_row w blk (o + j) vs T (0, 0) h]
  simpa using hu

theorem out_load (hΘ : ΘOk P Θ) (hS : SimH G wb ρ H w) (hE : RVs ρ H (gd G ρ H) w env a.tmps.toList) {o : Oper} {t : Nat} {x : Operand} (ho : o.op = .load t x)
    (h : opD P wb Θ (.load t x) env H K) : OpOut P G wb ρ H w K ((execOp a.eval o).run P w) := by
  simp only [opD] at h
  obtain ⟨ti, h1, h⟩ := tiK_out _ _ _ h
  have hti := hΘ _ _ h1
  obtain ⟨y, h, hy⟩ := evK_out hE h
  have fin : ∀ (ad : Addr) (z : A) (v : Value), a.eval x = .pointer (some ad) → K z H → RV ρ H (gd G ρ H) w z v → (loadVar t ad).run P w = .ok v w →
      OpOut P G wb ρ H w K ((execOp a.eval o).run P w) := by
    intro ad z v e1 hk hv e2
    have : (execOp a.eval o).run P w = .ok (.value v) w := by simp [execOp, ho, Instr.loadAt, Instr.sureAddr, e1, e2]
    rw [this]
    exact .val _ _ (.same hS hk hv)
  split at h
  · rename_i ob off
    obtain ⟨obj, hob, h⟩ := getO_out _ _ _ h
    split at h
    · rename_i cs
      obtain ⟨l, hl⟩ := hS.loc hob
      have hok := hS.ok _ _ _ hl hob
      simp only [ObOk] at hok
      obtain ⟨vs, T, e1, e2⟩ := hok
      simp only [RV] at hy
      obtain ⟨l', hl', e3⟩ := hy.2.2 _ hob
      rw [hl] at hl'
      cases hl'
      obtain ⟨z, v, k1, k2, k3⟩ := ldA_out hti e2 (blk := l.blk) (base := 0) (fun j u hu => cells_at e1 0 j u (by simpa using hu)) h
      rw [Nat.zero_add] at k3
      exact fin _ z v e3 k1 k2 k3
    · exact h.elim
  · rename_i row
    simp only [RV] at hy
    obtain ⟨blk, off, e1, _, hr⟩ := hy
    obtain ⟨vs, v1, v2⟩ := hr.vals (ρ := ρ) (H := H)
    obtain ⟨z, v, k1, k2, k3⟩ := ldA_out hti v1 v2 (ldD_ldA h)
    exact fin _ z v e1 k1 k2 k3
  · rename_i ob gn idx off
    obtain ⟨obj, hob, h⟩ := getO_out _ _ _ h
    split at h
    · rename_i g' es els
      obtain ⟨e, row, hrow, h⟩ := h
      subst e
      obtain ⟨l, hl⟩ := hS.loc hob
      have hok := hS.ok _ _ _ hl hob
      simp only [ObOk] at hok
      simp only [RV] at hy
      obtain ⟨_, hy⟩ := hy.2.2 _ _ _ hob
      obtain ⟨l', hl', _, e3⟩ := hy rfl
      rw [hl] at hl'
      cases hl'
      obtain ⟨vs, v1, v2⟩ := (hok.2.2.2.2.get hrow).2.vals
      obtain ⟨z, v, k1, k2, k3⟩ := ldA_out hti v1 v2 h
      exact fin _ z v e3 k1 k2 k3
    · exact h.elim
  · exact h.elim

theorem out_fieldAddr (hΘ : ΘOk P Θ) (hS : SimH G wb ρ H w) (hE : RVs ρ H (gd G ρ H) w env a.tmps.toList) {o : Oper} {t f : Nat} {x : Operand} (ho : o.op = .fieldAddr t x f)
    (h : opD P wb Θ (.fieldAddr t x f) env H K) : OpOut P G wb ρ H w K ((execOp a.eval o).run P w) := by
  simp only [opD] at h
  obtain ⟨ti, h1, h⟩ := tiK_out _ _ _ h
  have hti := hΘ _ _ h1
  obtain ⟨y, h, hy⟩ := evK_out hE h
  split at h
  · rename_i fs hk
    obtain ⟨⟨fo, ft⟩, hf, h⟩ := fieldK_out _ _ _ h
    obtain ⟨tf, hft, h⟩ := tiK_out _ _ _ h
    have htf := hΘ _ _ hft
    split at h
    · rename_i hpos
      have hpos := Nat.le_of_ble_eq_true hpos
      obtain ⟨d, d1, d2⟩ := hti.und
      rw [hk] at d2
      simp only [kindOk] at d2
      obtain ⟨fields, rfl, hfs⟩ := d2
      rw [← hfs, List.getElem?_map] at hf
      obtain ⟨fd, hfd, he⟩ := Option.map_eq_some_iff.1 hf
      simp only [Prod.mk.injEq] at he
      obtain ⟨rfl, rfl⟩ := he
      have hfd' : fields[f]? = some fd := by simpa using hfd
      have fin : ∀ (blk off : Nat) (z : A), a.eval x = .pointer (some ⟨blk, off, none⟩) → K z H → RV ρ H (gd G ρ H) w z (.pointer (some ⟨blk, off + fd.offset, none⟩)) →
          OpOut P G wb ρ H w K ((execOp a.eval o).run P w) := by
        intro blk off z e1 hk hv
        have : (execOp a.eval o).run P w = .ok (.value (.pointer (some ⟨blk, off + fd.offset, none⟩))) w := by
          have hne : tf.size ≠ 0 := by omega
          simp [execOp, ho, Instr.fieldAt, run_underlying d1, hfd', Instr.sureAddr, e1, fieldPlace, htf.run_sizeOf, hne, add_off]
        rw [this]
        exact .val _ _ (.same hS hk hv)
      split at h
      · rename_i ob off
        obtain ⟨obj, hob, h⟩ := getO_out _ _ _ h
        split at h
        · have h := nk_out h
          simp only [RV] at hy
          obtain ⟨l, hl, e⟩ := hy.2.2 _ hob
          exact fin _ _ _ e h (by simp only [RV]; exact ⟨⟨_, rfl⟩, hy.2.1, fun _ _ => ⟨l, hl, rfl⟩⟩)
        · exact h.elim
      · rename_i row
        obtain ⟨hlr, h⟩ := dropK_out _ _ _ h
        simp only [RV] at hy
        obtain ⟨blk, off, e1, hb, hr⟩ := hy
        refine fin _ _ _ e1 h ?_
        simp only [RV]
        exact ⟨blk, off + fd.offset, rfl, fun hn => hb (fun e => hn (by simp [e])), hr.drop _⟩
      · rename_i ob gn idx off
        obtain ⟨obj, hob, h⟩ := getO_out _ _ _ h
        split at h
        · obtain ⟨e, h⟩ := h
          subst e
          have h := nk_out h
          simp only [RV] at hy
          obtain ⟨_, hy2⟩ := hy.2.2 _ _ _ hob
          obtain ⟨l, hl, hi, e⟩ := hy2 rfl
          refine fin _ _ _ e h ?_
          simp only [RV]
          refine ⟨⟨_, rfl⟩, hy.2.1, fun gc es els hc => ?_⟩
          rw [hob] at hc
          cases hc
          exact ⟨Nat.le_refl _, fun _ => ⟨l, hl, hi, by rw [Nat.add_assoc (l.off + _)]⟩⟩
        · exact h.elim
      · exact h.elim
    · exact h.elim
  · exact h.elim

theorem out_indexAddr (hΘ : ΘOk P Θ) (hS : SimH G wb ρ H w) (hE : RVs ρ H (gd G ρ H) w env a.tmps.toList) {o : Oper} {t : Nat} {x ix : Operand} (ho : o.op = .indexAddr t x ix)
    (h : opD P wb Θ (.indexAddr t x ix) env H K) : OpOut P G wb ρ H w K ((execOp a.eval o).run P w) := by
  simp only [opD] at h
  obtain ⟨ti, h1, h⟩ := tiK_out _ _ _ h
  have hti := hΘ _ _ h1
  split at h
  · rename_i e hk
    obtain ⟨te, hte, h⟩ := tiK_out _ _ _ h
    have hte := hΘ _ _ hte
    have hund := hti.slice hk
    obtain ⟨y, h2, hy⟩ := evK_out hE h
    obtain ⟨iy, h3, hiy⟩ := evK_out hE h2
    clear h h2
    cases iy with
    | d dd =>
      cases dd with
      | i k i =>
        simp only [intK] at h3
        simp only [RV, RD] at hiy
        obtain ⟨e1, hwf⟩ := hiy
        have fin : ∀ (ad : Addr) (n c : Nat) (z : A), a.eval x = .slice (some ad) n c → 0 ≤ i → i < n → K z H → RV ρ H (gd G ρ H) w z (.pointer (some (ad.add (i.toNat * te.size)))) →
            OpOut P G wb ρ H w K ((execOp a.eval o).run P w) := by
          intro ad n c z e2 h0 hn hk hv
          have : (execOp a.eval o).run P w = .ok (.value (.pointer (some (ad.add (i.toNat * te.size))))) w := by
            simp [execOp, ho, Instr.indexAt, run_underlying hund, e1, e2, asIntOf, hte.run_sizeOf, h0, hn]
          rw [this]
          exact .val _ _ (.same hS hk hv)
        cases y with
        | d yd =>
          cases yd with
          | sl els =>
            obtain ⟨h0, row, hrow, hlen, h⟩ := h3
            have hlt : i.toNat < els.length := by
              rcases Nat.lt_or_ge i.toNat els.length with h' | h'
              · exact h'
              · rw [List.getElem?_eq_none h'] at hrow; cases hrow
            simp only [RV, RD] at hy
            obtain ⟨ad, c, es, e2, c1, c2, c3, c4⟩ := hy
            rcases c4 with c4 | ⟨blk, off, rfl, hb, hr⟩
            · subst c4; simp at hlt
            · obtain ⟨r1, r2⟩ := hr.get hrow
              have hes : es = te.size := by omega
              subst hes
              refine fin _ _ _ _ e2 h0 (by omega) h ?_
              simp only [RV, add_off]
              exact ⟨blk, _, rfl, fun _ => hb, r2⟩
          | _ => exact h3.elim
        | vs ob gn off =>
          obtain ⟨obj, hob, h⟩ := getO_out _ _ _ h3
          cases obj with
          | vec g' es els =>
            obtain ⟨e, hes, h0, m, hm, hlt, h⟩ := h
            subst e
            subst hes
            simp only [RV] at hy
            obtain ⟨_, hy2⟩ := hy.2.2 _ _ _ hob
            obtain ⟨l, ad, hl, hoff, e2, ha⟩ := hy2 rfl
            have hyo := hy.2.1
            clear hy hy2
            have k1 : els.length ≤ l.cap := by
              have hok := hS.ok _ _ _ hl hob
              simp only [ObOk] at hok
              exact hok.1
            obtain rfl := ha (by omega)
            refine fin _ _ _ _ e2 h0 (by omega) h ?_
            simp only [RV, add_off]
            refine ⟨⟨_, rfl⟩, hyo, fun gc es' els' hc => ?_⟩
            rw [hob] at hc
            cases hc
            refine ⟨Nat.le_refl _, fun _ => ⟨l, hl, hlt, ?_⟩⟩
            rw [← hm, Nat.add_mul, Nat.add_zero, Nat.add_assoc]
          | _ => exact h.elim
        | _ => exact h3.elim
      | _ => exact h3.elim
    | _ => exact h3.elim
  · rename_i n e hk
    obtain ⟨te, hte, h⟩ := tiK_out _ _ _ h
    have hte := hΘ _ _ hte
    have hund : P.underlying t = some (.array n e) := by
      obtain ⟨d, d1, d2⟩ := hti.und
      rw [hk] at d2
      rw [d1, d2]
    obtain ⟨y, h2, hy⟩ := evK_out hE h
    obtain ⟨iy, h3, hiy⟩ := evK_out hE h2
    clear h h2
    cases iy with
    | d dd =>
      cases dd with
      | i k i =>
        simp only [intK] at h3
        simp only [RV, RD] at hiy
        obtain ⟨e1, hwf⟩ := hiy
        have fin : ∀ (blk off : Nat) (z : A), a.eval x = .pointer (some ⟨blk, off, none⟩) → 0 ≤ i → i < n → K z H → RV ρ H (gd G ρ H) w z (.pointer (some ⟨blk, off + i.toNat * te.size, none⟩)) →
            OpOut P G wb ρ H w K ((execOp a.eval o).run P w) := by
          intro blk off z e2 h0 hn hk hv
          have : (execOp a.eval o).run P w = .ok (.value (.pointer (some ⟨blk, off + i.toNat * te.size, none⟩))) w := by
            simp [execOp, ho, Instr.indexAt, run_underlying hund, e1, e2, asIntOf, Instr.sureAddr, hte.run_sizeOf, h0, hn, add_off]
          rw [this]
          exact .val _ _ (.same hS hk hv)
        cases y with
        | ptr ob off =>
          obtain ⟨obj, hob, h⟩ := getO_out _ _ _ h3
          cases obj with
          | box cs =>
            obtain ⟨h0, hn, h⟩ := h
            have h := nk_out h
            simp only [RV] at hy
            obtain ⟨l, hl, ep⟩ := hy.2.2 _ hob
            exact fin _ _ _ ep h0 hn h (by simp only [RV]; exact ⟨⟨_, rfl⟩, hy.2.1, fun _ _ => ⟨l, hl, rfl⟩⟩)
          | _ => exact h.elim
        | fp row =>
          obtain ⟨h0, hn, h⟩ := h3
          obtain ⟨hlr, h⟩ := dropK_out _ _ _ (nk_out h)
          simp only [RV] at hy
          obtain ⟨blk, off, ep, hb, hr⟩ := hy
          refine fin _ _ _ ep h0 hn h ?_
          simp only [RV]
          exact ⟨blk, off + i.toNat * te.size, rfl, fun hn => hb (fun e => hn (by simp [e])), hr.drop _⟩
        | _ => exact h3.elim
      | _ => exact h3.elim
    | _ => exact h3.elim
  · exact h.elim

theorem out_nilCheck (hS : SimH G wb ρ H w) (hE : RVs ρ H (gd G ρ H) w env a.tmps.toList) {o : Oper} {x : Operand} (ho : o.op = .nilCheck x)
    (h : opD P wb Θ (.nilCheck x) env H K) : OpOut P G wb ρ H w K ((execOp a.eval o).run P w) := by
  simp only [opD] at h
  obtain ⟨y, h, hy⟩ := evK_out hE h
  have fin : ∀ (ad : Addr) (z : A), a.eval x = .pointer (some ad) → K z H → RV ρ H (gd G ρ H) w z (a.eval x) → OpOut P G wb ρ H w K ((execOp a.eval o).run P w) := by
    intro ad z e hk hv
    have : (execOp a.eval o).run P w = .ok (.value (a.eval x)) w := by simp [execOp, ho, e]
    rw [this]
    exact .val _ _ (.same hS hk hv)
  split at h
  · obtain ⟨obj, hob, h⟩ := getO_out _ _ _ h
    split at h
    · have hy' := hy
      simp only [RV] at hy
      obtain ⟨l, hl, e⟩ := hy.2.2 _ hob
      exact fin _ _ e h hy'
    · exact h.elim
  · have hy' := hy
    simp only [RV] at hy
    obtain ⟨blk, off, e, _⟩ := hy
    exact fin _ _ e h hy'
  · obtain ⟨obj, hob, h⟩ := getO_out _ _ _ h
    split at h
    · obtain ⟨e, h⟩ := h
      subst e
      have hy' := hy
      simp only [RV] at hy
      obtain ⟨_, hy2⟩ := hy.2.2 _ _ _ hob
      obtain ⟨l, hl, hi, e⟩ := hy2 rfl
      exact fin _ _ e h hy'
    · exact h.elim
  · have hy' := hy
    simp only [RV] at hy
    obtain ⟨u, v, e, _⟩ := hy
    have : (execOp a.eval o).run P w = .ok (.value (a.eval x)) w := by simp [execOp, ho, e]
    rw [this]
    exact .val _ _ (.same hS h hy')
  · exact h.elim

theorem OpOut.pure (hS : SimH G wb ρ H w) {o : Oper} {z : A} {v : Value} (hr : (execOp a.eval o).run P w = .ok (.value v) w) (hk : K z H) (hv : RV ρ H (gd G ρ H) w z v) :
    OpOut P G wb ρ H w K ((execOp a.eval o).run P w) := by
  rw [hr]
  exact .val _ _ (.same hS hk hv)

theorem out_pick (hS : SimH G wb ρ H w) (hE : RVs ρ H (gd G ρ H) w env a.tmps.toList) {o : Oper} {c x y : Operand} (ho : o.op = .pick c x y)
    (h : opD P wb Θ (.pick c x y) env H K) : OpOut P G wb ρ H w K ((execOp a.eval o).run P w) := by
  simp only [opD] at h
  obtain ⟨cy, h1, hy⟩ := evK_out hE h
  cases cy with
  | d dd =>
    cases dd with
    | b t =>
      simp only [RV, RD] at hy
      cases t with
      | true =>
        obtain ⟨z, h2, hz⟩ := evK_out hE h1
        exact .pure hS (by simp [execOp, ho, asBool, hy]) h2 hz
      | false =>
        obtain ⟨z, h2, hz⟩ := evK_out hE h1
        exact .pure hS (by simp [execOp, ho, asBool, hy]) h2 hz
    | _ => exact h1.elim
  | _ => exact h1.elim

theorem out_extract (hS : SimH G wb ρ H w) (hE : RVs ρ H (gd G ρ H) w env a.tmps.toList) {o : Oper} {x : Operand} {i : Nat} (ho : o.op = .extract x i)
    (h : opD P wb Θ (.extract x i) env H K) : OpOut P G wb ρ H w K ((execOp a.eval o).run P w) := by
  simp only [opD] at h
  obtain ⟨y, h1, hy⟩ := evK_out hE h
  cases y with
  | tup vs =>
    obtain ⟨hl, h2⟩ := dropK_out _ _ _ h1
    simp only [RV] at hy
    obtain ⟨us, e, hy⟩ := hy
    cases hd : vs.drop i with
    | nil => rw [hd] at h2; exact h2.elim
    | cons r rs =>
      rw [hd] at h2
      obtain ⟨v, hv, hrv⟩ := hy.get (i := i) (x := r) (by
        have := congrArg (fun l => l[0]?) hd
        simpa using this)
      have hv' : us[i]? = some v := by simpa using hv
      exact .pure hS (by simp [execOp, ho, Instr.extract, e, hv']) h2 hrv
  | _ => exact h1.elim

theorem out_makeFunc (hS : SimH G wb ρ H w) (hE : RVs ρ H (gd G ρ H) w env a.tmps.toList) {o : Oper} {f : Nat} {xs ys : Array Operand} (ho : o.op = .makeFunc (.func f) xs ys)
    (h : opD P wb Θ (.makeFunc (.func f) xs ys) env H K) : OpOut P G wb ρ H w K ((execOp a.eval o).run P w) := by
  simp only [opD] at h
  obtain ⟨us, h1, hu⟩ := evsK_out hE _ _ h
  obtain ⟨vs, h2, hv⟩ := evsK_out hE _ _ h1
  refine .pure hS (v := .func (.func f) (xs.map a.eval) (ys.map a.eval)) (by simp [execOp, ho, Instr.makeFunc]) h2 ?_
  simp only [RV]
  exact ⟨_, _, rfl, by simpa using hu, by simpa using hv⟩

theorem out_unOp (hS : SimH G wb ρ H w) (hE : RVs ρ H (gd G ρ H) w env a.tmps.toList) {o : Oper} {op : UnOp} {t : Nat} {x : Operand} (ho : o.op = .unOp op t x)
    (h : opD P wb Θ (.unOp op t x) env H K) : OpOut P G wb ρ H w K ((execOp a.eval o).run P w) := by
  simp only [opD] at h
  obtain ⟨y, h1, hy⟩ := evK_out hE h
  cases op with
  | not =>
    cases y with
    | d dd =>
      cases dd with
      | b t =>
        simp only [RV, RD] at hy
        exact .pure hS (v := .bool (!t)) (by simp [execOp, ho, Op.unary, hy]) h1 (by simp [RV, RD])
      | _ => exact h1.elim
    | _ => exact h1.elim
  | neg =>
    cases y with
    | d dd =>
      cases dd with
      | i k n =>
        simp only [RV, RD] at hy
        obtain ⟨c, hc, h2⟩ := h1
        refine .pure hS (v := .int k c) (by simp [execOp, ho, Op.unary, Op.intArith, hy.1, ← hc]) h2 ?_
        simp only [RV, RD, true_and]
        rw [← hc]
        exact wrap_wrap k _
      | _ => exact h1.elim
    | _ => exact h1.elim
  | _ => cases y <;> (try exact h1.elim) <;> (rename_i dd; cases dd <;> exact h1.elim)

theorem out_convert (hΘ : ΘOk P Θ) (hS : SimH G wb ρ H w) (hE : RVs ρ H (gd G ρ H) w env a.tmps.toList) {o : Oper} {s t : Nat} {x : Operand} (ho : o.op = .convert s t x)
    (h : opD P wb Θ (.convert s t x) env H K) : OpOut P G wb ρ H w K ((execOp a.eval o).run P w) := by
  simp only [opD] at h
  obtain ⟨ts, hs, h1⟩ := tiK_out _ _ _ h
  obtain ⟨td, hd, h2⟩ := tiK_out _ _ _ h1
  obtain ⟨d, d1, d2⟩ := (hΘ _ _ hs).und
  obtain ⟨d', d1', d2'⟩ := (hΘ _ _ hd).und
  obtain ⟨y, h3, hy⟩ := evK_out hE h2
  clear h h1 h2
  cases hk : td.k with
  | int k' =>
    rw [hk] at h3 d2'
    simp only [kindOk] at d2'
    subst d2'
    cases y with
    | d dd =>
      cases dd with
      | i k n =>
        simp only [RV, RD] at hy
        obtain ⟨c, hc, h4⟩ := h3
        refine .pure hS (v := .int k' c) (by simp [execOp, ho, convert, run_underlying d1, run_underlying d1', hy.1, Conv.intToInt, hc]) h4 ?_
        simp only [RV, RD, true_and]
        rw [← hc]
        exact wrap_wrap k' _
      | _ => exact h3.elim
    | _ => exact h3.elim
  | _ => rw [hk] at h3; exact h3.elim

theorem run_part {P : Program} {t : Nat} {ti : TI} (hti : TIok P t ti) {cs : List A} {vs : Array Value} {ρ : List Loc} {H : List Ob} {g : Nat → Prop} {w : World} (hv : RVs ρ H g w cs vs.toList) {off : Nat} {K : A → Prop} (h : ldA ti cs off K) :
    ∃ x v, K x ∧ RV ρ H g w x v ∧ (part t vs off).run P w = .ok v w := by
  unfold ldA at h
  obtain ⟨hl, h1⟩ := dropK_out _ _ _ h
  have hd := hv.drop off
  cases hagg : ti.k.agg with
  | true =>
    rw [hagg] at h1
    obtain ⟨hl2, h2⟩ := takeK_out _ _ _ h1
    have ht := hd.take ti.size
    refine ⟨_, .agg (vs.extract off (off + ti.size)), h2, ?_, by simp [part, hti.run_isAgg, hti.run_sizeOf, hagg]⟩
    simp only [RV]
    refine ⟨_, rfl, ?_⟩
    have : (vs.extract off (off + ti.size)).toList = (vs.toList.drop off).take ti.size := by
      simp [Array.toList_extract]
    rw [this]
    exact ht
  | false =>
    rw [hagg] at h1
    cases hx : cs.drop off with
    | nil => rw [hx] at h1; exact h1.elim
    | cons x xs =>
      rw [hx] at h1 hd
      simp only [RVs] at hd
      obtain ⟨v, r, hr, k1, _⟩ := hd
      refine ⟨x, v, h1, k1, ?_⟩
      have : vs[off]? = some v := by
        have := congrArg (fun l => l[0]?) hr
        simpa using this
      simp [part, hti.run_isAgg, hagg, this]

theorem out_field (hΘ : ΘOk P Θ) (hS : SimH G wb ρ H w) (hE : RVs ρ H (gd G ρ H) w env a.tmps.toList) {o : Oper} {t f : Nat} {x : Operand} (ho : o.op = .field t x f)
    (h : opD P wb Θ (.field t x f) env H K) : OpOut P G wb ρ H w K ((execOp a.eval o).run P w) := by
  simp only [opD] at h
  obtain ⟨ti, h1, h2⟩ := tiK_out _ _ _ h
  obtain ⟨y, h3, hy⟩ := evK_out hE h2
  obtain ⟨d, d1, d2⟩ := (hΘ _ _ h1).und
  clear h h2
  cases hk : ti.k with
  | struct fs =>
    rw [hk] at h3 d2
    obtain ⟨⟨fo, ft⟩, hf, h4⟩ := fieldK_out _ _ _ h3
    obtain ⟨tf, hft, h5⟩ := tiK_out _ _ _ h4
    have htf := hΘ _ _ hft
    simp only [kindOk] at d2
    obtain ⟨fields, rfl, hfs⟩ := d2
    rw [← hfs, List.getElem?_map] at hf
    obtain ⟨fd, hfd, he⟩ := Option.map_eq_some_iff.1 hf
    simp only [Prod.mk.injEq] at he
    obtain ⟨rfl, rfl⟩ := he
    have hfd' : fields[f]? = some fd := by simpa using hfd
    cases y with
    | agg cs =>
      simp only [RV] at hy
      obtain ⟨vs, e, hy⟩ := hy
      obtain ⟨z, v, k1, k2, k3⟩ := run_part htf hy h5
      exact .pure hS (by simp [execOp, ho, Instr.field, run_underlying d1, hfd', e, asAgg, k3]) k1 k2
    | _ => exact h5.elim
  | _ => rw [hk] at h3; exact h3.elim

theorem out_index (hΘ : ΘOk P Θ) (hS : SimH G wb ρ H w) (hE : RVs ρ H (gd G ρ H) w env a.tmps.toList) {o : Oper} {t : Nat} {x ix : Operand} (ho : o.op = .index t x ix)
    (h : opD P wb Θ (.index t x ix) env H K) : OpOut P G wb ρ H w K ((execOp a.eval o).run P w) := by
  simp only [opD] at h
  obtain ⟨ti, h1, h2⟩ := tiK_out _ _ _ h
  obtain ⟨y, h3, hy⟩ := evK_out hE h2
  obtain ⟨iy, h4, hiy⟩ := evK_out hE h3
  obtain ⟨d, d1, d2⟩ := (hΘ _ _ h1).und
  clear h h2 h3
  cases iy with
  | d dd =>
    cases dd with
    | i k i =>
      simp only [intK] at h4
      simp only [RV, RD] at hiy
      obtain ⟨e1, hwf⟩ := hiy
      cases hk : ti.k with
      | arr n e =>
        rw [hk] at h4 d2
        simp only [kindOk] at d2
        subst d2
        obtain ⟨te, hte, h5⟩ := tiK_out _ _ _ h4
        cases y with
        | agg cs =>
          obtain ⟨h0, hn, h6⟩ := h5
          have h6 := nk_out h6
          simp only [RV] at hy
          obtain ⟨vs, e2, hy⟩ := hy
          obtain ⟨z, v, k1, k2, k3⟩ := run_part (hΘ _ _ hte) hy h6
          exact .pure hS (by simp [execOp, ho, Instr.index, run_underlying d1, e1, e2, asIntOf, h0, hn, (hΘ _ _ hte).run_sizeOf, k3]) k1 k2
        | _ => exact h5.elim
      | str =>
        rw [hk] at h4 d2
        simp only [kindOk] at d2
        subst d2
        cases y with
        | d yd =>
          cases yd with
          | s b =>
            obtain ⟨h0, c, hc, h5⟩ := h4
            simp only [RV, RD] at hy
            refine .pure hS (v := .int .u8 (c.toNat : Int)) (by simp [execOp, ho, Instr.index, run_underlying d1, e1, hy.1, asIntOf, h0, hc]) h5 ?_
            simp only [RV, RD, true_and]
            have := c.toNat_lt
            exact wrap_in .u8 _ (by simp [IntKind.signed]) (by simp only [kMax]; omega)
          | _ => exact h4.elim
        | _ => exact h4.elim
      | _ => rw [hk] at h4; exact h4.elim
    | _ => exact h4.elim
  | _ => exact h4.elim

theorem run_getObj_map {P : Program} {w : World} {r : Nat} {es : Array MapEntry} {c : Nat} (h : w.heap[r]? = some (.map es c)) : (getObj r).run P w = .ok (.map es c) w := by
  simp [getObj, Sem.run, h]
theorem run_equalIn_ptr_nil {P : Program} (w : World) (d : Nat) (t e : TypeId) (p : Option Addr) (h : P.underlying t = some (.pointer e)) : (Op.equalIn (d + 1) t (.pointer p) (.pointer none)).run P w = .ok p.isNone w := by
  cases p <;> simp [Op.equalIn, run_underlying h]
theorem run_equal_ptr_nil {P : Program} (w : World) (t e : TypeId) (p : Option Addr) (h : P.underlying t = some (.pointer e)) : (Op.equal t (.pointer p) (.pointer none)).run P w = .ok p.isNone w :=
  run_equalIn_ptr_nil w 9999 t e p h
theorem len_in (n : Nat) (h : n ≤ maxLen) : IntKind.i64.wrap (n : Int) = (n : Int) :=
  wrap_in .i64 _ (by simp only [IntKind.signed, kMax, if_true]; omega) (by simp only [maxLen] at h; simp only [kMax]; omega)

theorem out_len (hΘ : ΘOk P Θ) (hS : SimH G wb ρ H w) (hE : RVs ρ H (gd G ρ H) w env a.tmps.toList) {o : Oper} {x : Operand} {t : Nat} (ho : o.op = .call ⟨.builtin .len, #[x], #[t]⟩)
    (h : tiK Θ t fun ti => evK env x fun v => lenD ti.k v H fun r => K r H) : OpOut P G wb ρ H w K ((execOp a.eval o).run P w) := by
  obtain ⟨ti, h1, h2⟩ := tiK_out _ _ _ h
  obtain ⟨y, h3, hy⟩ := evK_out hE h2
  obtain ⟨d, d1, d2⟩ := (hΘ _ _ h1).und
  clear h h2
  cases hk : ti.k with
  | slice e =>
    rw [hk] at h3 d2
    simp only [kindOk] at d2
    subst d2
    have fin : ∀ (ad : Option Addr) (n c : Nat), n ≤ maxLen → a.eval x = .slice ad n c → K (.d (.i .i64 n)) H → OpOut P G wb ρ H w K ((execOp a.eval o).run P w) := by
      intro ad n c hm e hk
      exact .pure hS (v := .int .i64 n) (by simp [execOp, ho, resolve, invoke, builtin, Builtin.len_, run_underlying d1, e, goInt]) hk (by simp only [RV, RD, true_and]; exact len_in n hm)
    cases y with
    | d dd =>
      cases dd with
      | sl els =>
        simp only [RV, RD] at hy
        obtain ⟨ad, c, es, e, c1, c2, _⟩ := hy
        exact fin ad _ c (by omega) e h3
      | _ => exact h3.elim
    | es =>
      simp only [RV] at hy
      obtain ⟨ad, e⟩ := hy
      exact fin ad 0 0 (by simp [maxLen]) e h3
    | vs ob gn off =>
      obtain ⟨obj, hob, h4⟩ := getO_out _ _ _ h3
      cases obj with
      | vec g' es els =>
        obtain ⟨e, h4⟩ := h4
        subst e
        simp only [RV] at hy
        obtain ⟨_, hy2⟩ := hy.2.2 _ _ _ hob
        obtain ⟨l, ad, hl, hoff, e2, ha⟩ := hy2 rfl
        have k1 : els.length ≤ maxLen := by
          have hok := hS.ok _ _ _ hl hob
          simp only [ObOk] at hok
          exact Nat.le_trans hok.1 hok.2.1
        refine fin ad _ _ (show els.length - off ≤ maxLen by clear hy hy2; omega) e2 ?_
        cases off with
        | zero => simpa using h4
        | succ n => exact h4
      | _ => exact h4.elim
    | _ => exact h3.elim
  | str =>
    rw [hk] at h3 d2
    simp only [kindOk] at d2
    subst d2
    cases y with
    | d dd =>
      cases dd with
      | s b =>
        simp only [RV, RD] at hy
        exact .pure hS (v := .int .i64 b.size) (by simp [execOp, ho, resolve, invoke, builtin, Builtin.len_, run_underlying d1, hy.1, goInt]) h3 (by simp only [RV, RD, true_and]; exact len_in _ hy.2)
      | _ => exact h3.elim
    | _ => exact h3.elim
  | map kk ee =>
    rw [hk] at h3 d2
    simp only [kindOk] at d2
    subst d2
    cases y with
    | mp ob =>
      obtain ⟨obj, hob, h4⟩ := getO_out _ _ _ h3
      cases obj with
      | map k es =>
        obtain ⟨hm, h4⟩ := h4
        simp only [RV] at hy
        obtain ⟨l, hl, e⟩ := hy.2.2 _ _ hob
        have hok := hS.ok _ _ _ hl hob
        simp only [ObOk] at hok
        obtain ⟨ents, clock, hh, hents⟩ := hok
        have hlen : ∀ (xs : List (Int × A)) (es : List MapEntry), Ents ρ H (gd G ρ H) w k xs es → es.length = xs.length := by
          intro xs
          induction xs with
          | nil => intro es h; simp only [Ents] at h; subst h; rfl
          | cons x xs ih => intro es h; simp only [Ents] at h; obtain ⟨e, r, rfl, _, _, _, h⟩ := h; simp [ih r h]
        have hsz : ents.size = es.length := by simpa using hlen _ _ hents
        refine .pure hS (v := .int .i64 es.length) ?_ h4 (by simp only [RV, RD, true_and]; exact len_in _ hm)
        simp [execOp, ho, resolve, invoke, builtin, Builtin.len_, run_underlying d1, e, goInt, run_getObj_map hh, hsz]
      | _ => exact h4.elim
    | nilm =>
      simp only [RV] at hy
      exact .pure hS (v := .int .i64 0) (by simp [execOp, ho, resolve, invoke, builtin, Builtin.len_, run_underlying d1, hy, goInt]) h3 (by simp [RV, RD]; rfl)
    | _ => exact h3.elim
  | _ => rw [hk] at h3; exact h3.elim

theorem same_out {j k : IntKind} {p : Prop} (h : IntKind.same j k p) : j = k ∧ p := by
  unfold IntKind.same at h
  split at h
  · rename_i e; exact ⟨of_decide_eq_true e, h⟩
  · exact h.elim

theorem out_binOp (hΘ : ΘOk P Θ) (hS : SimH G wb ρ H w) (hE : RVs ρ H (gd G ρ H) w env a.tmps.toList) {o : Oper} {op : BinOp} {t t' : Nat} {x y : Operand} (ho : o.op = .binOp op t x y t')
    (h : evK env x fun a => evK env y fun b => binD Θ t op a b H fun v => K v H) : OpOut P G wb ρ H w K ((execOp a.eval o).run P w) := by
  obtain ⟨xa, h1, hx⟩ := evK_out hE h
  obtain ⟨ya, h2, hy⟩ := evK_out hE h1
  clear h h1
  have fb : ∀ b : Bool, (execOp a.eval o).run P w = .ok (.value (.bool b)) w → K (.d (.b b)) H → OpOut P G wb ρ H w K ((execOp a.eval o).run P w) :=
    fun b hr hk => .pure hS hr hk (by simp [RV, RD])
  cases xa with
  | d xd =>
    cases xd with
    | i k n =>
      cases ya with
      | d yd =>
        cases yd with
        | i k' m =>
          obtain ⟨e, h3⟩ := same_out h2
          subst e
          simp only [RV, RD] at hx hy
          obtain ⟨ex, _⟩ := hx
          obtain ⟨ey, _⟩ := hy
          have fi : ∀ c : Int, (execOp a.eval o).run P w = .ok (.value (.int k (k.wrap c))) w → (∃ d, k.wrap c = d ∧ K (.d (.i k d)) H) → OpOut P G wb ρ H w K ((execOp a.eval o).run P w) := by
            rintro c hr ⟨d, rfl, hk⟩
            exact .pure hS hr hk (by simp only [RV, RD, true_and]; exact wrap_wrap k _)
          cases op <;> simp only [intD] at h3
          case add => exact fi (n + m) (by simp [execOp, ho, eqGuard, binOp, ex, ey, Op.intArith]) h3
          case sub => exact fi (n - m) (by simp [execOp, ho, eqGuard, binOp, ex, ey, Op.intArith]) h3
          case mul => exact fi (n * m) (by simp [execOp, ho, eqGuard, binOp, ex, ey, Op.intArith]) h3
          case eql => exact fb _ (by simp [execOp, ho, eqGuard, binOp, ex, ey, Op.intCmp]; rfl) h3
          case neq => exact fb _ (by simp [execOp, ho, eqGuard, binOp, ex, ey, Op.intCmp, bne]; rfl) h3
          case lss => exact fb _ (by simp [execOp, ho, eqGuard, binOp, ex, ey, Op.intCmp]) h3
          case leq => exact fb _ (by simp [execOp, ho, eqGuard, binOp, ex, ey, Op.intCmp]) h3
          case gtr => exact fb _ (by simp [execOp, ho, eqGuard, binOp, ex, ey, Op.intCmp]) h3
          case geq => exact fb _ (by simp [execOp, ho, eqGuard, binOp, ex, ey, Op.intCmp]) h3
        | _ => exact h2.elim
      | _ => exact h2.elim
    | b p =>
      cases ya with
      | d yd =>
        cases yd with
        | b q =>
          obtain ⟨ti, h3, h4⟩ := tiK_out _ _ _ h2
          obtain ⟨d, d1, d2⟩ := (hΘ _ _ h3).und
          cases hk : ti.k with
          | bool =>
            rw [hk] at h4 d2
            simp only [kindOk] at d2
            subst d2
            simp only [RV, RD] at hx hy
            cases op <;> simp only [eqK] at h4
            case eql => exact fb _ (by simp [execOp, ho, eqGuard, binOp, hx, hy, run_equal_bool _ _ _ _ d1]) h4
            case neq => exact fb _ (by simp [execOp, ho, eqGuard, binOp, hx, hy, run_equal_bool _ _ _ _ d1]) h4
          | _ => rw [hk] at h4; exact h4.elim
        | _ => exact h2.elim
      | _ => exact h2.elim
    | s p =>
      cases ya with
      | d yd =>
        cases yd with
        | s q =>
          simp only [RV, RD] at hx hy
          cases op <;> simp only [binD, strD] at h2
          case add =>
            refine .pure hS (v := .string (p ++ q)) ?_ h2.2 (by simp only [RV, RD, true_and]; rw [ByteArray.size_append]; exact h2.1)
            simp only [execOp, ho]
            have hle' : (p.size : Int) + (q.size : Int) ≤ 9223372036854775807 := by
              have := h2.1
              simp only [maxLen] at this
              omega
            simp [eqGuard, binOp, hx.1, hy.1, Op.stringOp, hle']
          case eql => exact fb _ (by simp [execOp, ho, eqGuard, binOp, hx.1, hy.1, Op.stringOp]) h2
          case neq => exact fb _ (by simp [execOp, ho, eqGuard, binOp, hx.1, hy.1, Op.stringOp]) h2
        | _ => exact h2.elim
      | _ => exact h2.elim
    | _ => exact h2.elim
  | ptr ob off =>
    cases ya with
    | nilp =>
      obtain ⟨ti, h3, h4⟩ := tiK_out _ _ _ h2
      obtain ⟨d, d1, d2⟩ := (hΘ _ _ h3).und
      cases hk : ti.k with
      | ptr e =>
        rw [hk] at h4 d2
        simp only [kindOk] at d2
        subst d2
        obtain ⟨obj, hob, h5⟩ := getO_out _ _ _ h4
        cases obj with
        | box cs =>
          simp only [RV] at hx hy
          obtain ⟨l, hl, ex⟩ := hx.2.2 _ hob
          have hr : (Op.equal t (.pointer (some ⟨l.blk, off, none⟩)) (.pointer none)).run P w = .ok false w := run_equal_ptr_nil w t _ _ d1
          cases op <;> simp only [eqK] at h5
          case eql => exact fb _ (by simp [execOp, ho, eqGuard, binOp, ex, hy, hr]) h5
          case neq => exact fb _ (by simp [execOp, ho, eqGuard, binOp, ex, hy, hr]) h5
        | _ => exact h5.elim
      | _ => rw [hk] at h4; exact h4.elim
    | _ => exact h2.elim
  | nilp =>
    cases ya with
    | nilp =>
      obtain ⟨ti, h3, h4⟩ := tiK_out _ _ _ h2
      obtain ⟨d, d1, d2⟩ := (hΘ _ _ h3).und
      cases hk : ti.k with
      | ptr e =>
        rw [hk] at h4 d2
        simp only [kindOk] at d2
        subst d2
        simp only [RV] at hx hy
        have hr : (Op.equal t (.pointer none) (.pointer none)).run P w = .ok true w := run_equal_ptr_nil w t _ _ d1
        cases op <;> simp only [eqK] at h4
        case eql => exact fb _ (by simp [execOp, ho, eqGuard, binOp, hx, hy, hr]) h4
        case neq => exact fb _ (by simp [execOp, ho, eqGuard, binOp, hx, hy, hr]) h4
      | _ => rw [hk] at h4; exact h4.elim
    | _ => exact h2.elim
  | _ => exact h2.elim

theorem out_nil (hΘ : ΘOk P Θ) (hS : SimH G wb ρ H w) (hE : RVs ρ H (gd G ρ H) w env a.tmps.toList) {o : Oper} {op : BinOp} {t t' : Nat} {x : Operand} (ho : o.op = .binOp op t x (.const (.slice none 0 0)) t')
    (h : evK env x fun a => tiK Θ t fun ti => match ti.k with
      | .slice _ => nilD op a H fun v => K v H
      | _ => False) : OpOut P G wb ρ H w K ((execOp a.eval o).run P w) := by
  obtain ⟨xa, h1, hx⟩ := evK_out hE h
  obtain ⟨ti, h2, h3⟩ := tiK_out _ _ _ h1
  obtain ⟨d, d1, d2⟩ := (hΘ _ _ h2).und
  clear h h1
  cases hk : ti.k with
  | slice e =>
    rw [hk] at h3 d2
    simp only [kindOk] at d2
    subst d2
    have fin : ∀ (ad : Option Addr) (n c : Nat), a.eval x = .slice ad n c → eqK op ad.isNone (fun v => K v H) → OpOut P G wb ρ H w K ((execOp a.eval o).run P w) := by
      intro ad n c e h
      have r1 := Lib.run_eql_slice_nil (P := P) w t _ ad n c 0 0 d1
      have r2 := run_neq_slice_nil_any (P := P) w t _ ad n c 0 0 d1
      have ec : a.eval (.const (.slice none 0 0)) = .slice none 0 0 := rfl
      cases op <;> simp only [eqK] at h
      case eql => exact .pure hS (v := .bool ad.isNone) (by simp [execOp, ho, eqGuard, e, ec, r1]) h (by simp [RV, RD])
      case neq => exact .pure hS (v := .bool (!ad.isNone)) (by simp [execOp, ho, eqGuard, e, ec, r2]) h (by simp [RV, RD])
    cases xa with
    | d xd =>
      cases xd with
      | sl els =>
        simp only [RV, RD] at hx
        obtain ⟨ad, c, es, ex, c1, c2, c3, c4⟩ := hx
        refine fin ad _ c ex (h3 _ (fun hn => ?_))
        rcases c4 with c4 | ⟨blk, off, rfl, _⟩
        · exact c4
        · simp at hn
      | _ => exact h3.elim
    | es =>
      simp only [RV] at hx
      obtain ⟨ad, ex⟩ := hx
      exact fin ad 0 0 ex (h3 _)
    | vs ob gn off =>
      obtain ⟨obj, hob, h4⟩ := getO_out _ _ _ h3
      cases obj with
      | vec g' es els =>
        obtain ⟨e, h5⟩ := h4
        subst e
        simp only [RV] at hx
        obtain ⟨_, hx2⟩ := hx.2.2 _ _ _ hob
        obtain ⟨l, ad, hl, hoff, ex, ha⟩ := hx2 rfl
        have k1 : els.length ≤ l.cap := by
          have hok := hS.ok _ _ _ hl hob
          simp only [ObOk] at hok
          exact hok.1
        refine fin ad _ _ ex (h5 _ (fun hn => ?_))
        clear hx hx2
        by_cases hlt : off < l.cap
        · rw [ha hlt] at hn; simp at hn
        · omega
      | _ => exact h4.elim
    | _ => exact h3.elim
  | _ => rw [hk] at h3; exact h3.elim
end ops
end Go.DL
