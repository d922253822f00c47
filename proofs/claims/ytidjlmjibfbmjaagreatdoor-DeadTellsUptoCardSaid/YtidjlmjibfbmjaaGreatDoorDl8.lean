/- Soundness of maps with whole numbers as keys. -/
import Derived.Test.YtidjlmjibfbmjaaGreatDoorDl7
namespace Go.DL
open Go.RowKit

theorem keyK_out {kk : IntKind} {x : A} {K : Int → Prop} (h : keyK kk x K) : ∃ n, x = .d (.i kk n) ∧ K n := by
  cases x with
  | d dd =>
    cases dd with
    | i k n =>
      obtain ⟨e, h'⟩ := same_out h
      subst e
      exact ⟨n, rfl, h'⟩
    | _ => exact h.elim
  | _ => exact h.elim

section
variable {ρ : List Loc} {H : List Ob} {g : Nat → Prop} {w : World} {k : IntKind}
theorem Ents.length : ∀ {xs : List (Int × A)} {es : List MapEntry}, Ents ρ H g w k xs es → es.length = xs.length
  | [], _, h => by simp only [Ents] at h; subst h; rfl
  | x :: xs, _, h => by simp only [Ents] at h; obtain ⟨e, r, rfl, _, _, _, h⟩ := h; simp [h.length]
/-- what the search for a key finds -/
theorem Ents.find (kd : IntKind) (n : Int) : ∀ {xs : List (Int × A)} {es : List MapEntry}, Ents ρ H g w k xs es → ∀ i,
    (mapGet xs n = none ∧ Instr.findNow (.int kd) (.int k n) es i = some none ∧ (∀ y, mapPut xs n y = xs ++ [(n, y)]) ∧ mapDel xs n = xs) ∨
    ∃ (p : Nat) (x : A) (e : MapEntry), mapGet xs n = some x ∧ es[p]? = some e ∧ e.key = .int k n ∧ RV ρ H g w x e.val ∧ Instr.findNow (.int kd) (.int k n) es i = some (some (i + p, e.val)) ∧
      (∀ y, mapPut xs n y = xs.set p (n, y)) ∧ mapDel xs n = xs.eraseIdx p
  | [], _, h, i => by
    simp only [Ents] at h
    subst h
    left
    exact ⟨rfl, rfl, fun _ => rfl, rfl⟩
  | x :: xs, _, h, i => by
    simp only [Ents] at h
    obtain ⟨e, r, rfl, h1, h2, h3, h4⟩ := h
    by_cases hx : x.1 = n
    · right
      refine ⟨0, x.2, e, by simp [mapGet, hx], by simp, by rw [h1, hx], h3, ?_, fun y => by simp [mapPut, hx], by simp [mapDel, hx]⟩
      simp [Instr.findNow, Instr.sameNow, h1, hx]
    · have hb : (n == x.1) = false := by simp; exact fun e => hx e.symm
      have hb' : (x.1 == n) = false := by simp; exact hx
      have hn : Instr.findNow (.int kd) (.int k n) (e :: r) i = Instr.findNow (.int kd) (.int k n) r (i + 1) := by
        simp [Instr.findNow, Instr.sameNow, h1, hb]
      have hg : mapGet (x :: xs) n = mapGet xs n := by simp [mapGet, hb']
      rcases Ents.find kd n h4 (i + 1) with ⟨a1, a2, a3, a4⟩ | ⟨p, y, e', a1, a2, a3, a4, a5, a6, a7⟩
      · left
        exact ⟨by rw [hg, a1], by rw [hn, a2], fun y => by simp [mapPut, hx, a3], by simp [mapDel, hx, a4]⟩
      · right
        refine ⟨p + 1, y, e', by rw [hg, a1], by simpa using a2, a3, a4, by rw [hn, a5, show i + 1 + p = i + (p + 1) by omega], fun y => by simp [mapPut, hx, a6], by simp [mapDel, hx, a7]⟩
theorem Ents.set : ∀ {xs : List (Int × A)} {es : List MapEntry}, Ents ρ H g w k xs es → ∀ {p : Nat} {n : Int} {y : A} {e : MapEntry}, e.key = .int k n → k.wrap n = n → RV ρ H g w y e.val →
    Ents ρ H g w k (xs.set p (n, y)) (es.set p e)
  | [], _, h, _, _, _, _, _, _, _ => by simp only [Ents] at h; subst h; simp [Ents]
  | x :: xs, _, h, p, n, y, e, a1, a2, a3 => by
    simp only [Ents] at h
    obtain ⟨e', r, rfl, h1, h2, h3, h4⟩ := h
    cases p with
    | zero => simp only [List.set_cons_zero, Ents]; exact ⟨e, r, rfl, a1, a2, a3, h4⟩
    | succ p => simp only [List.set_cons_succ, Ents]; exact ⟨e', _, rfl, h1, h2, h3, h4.set a1 a2 a3⟩
theorem Ents.erase : ∀ {xs : List (Int × A)} {es : List MapEntry}, Ents ρ H g w k xs es → ∀ (p : Nat), Ents ρ H g w k (xs.eraseIdx p) (es.eraseIdx p)
  | [], _, h, _ => by simp only [Ents] at h; subst h; simp [Ents]
  | x :: xs, _, h, p => by
    simp only [Ents] at h
    obtain ⟨e', r, rfl, h1, h2, h3, h4⟩ := h
    cases p with
    | zero => simpa using h4
    | succ p => simp only [List.eraseIdx_cons_succ, Ents]; exact ⟨e', _, rfl, h1, h2, h3, h4.erase p⟩
theorem Ents.snoc : ∀ {xs : List (Int × A)} {es : List MapEntry}, Ents ρ H g w k xs es → ∀ {n : Int} {y : A} {e : MapEntry}, e.key = .int k n → k.wrap n = n → RV ρ H g w y e.val →
    Ents ρ H g w k (xs ++ [(n, y)]) (es ++ [e])
  | [], _, h, n, y, e, a1, a2, a3 => by simp only [Ents] at h; subst h; simp only [List.nil_append, Ents]; exact ⟨e, [], rfl, a1, a2, a3, rfl⟩
  | x :: xs, _, h, n, y, e, a1, a2, a3 => by
    simp only [Ents] at h
    obtain ⟨e', r, rfl, h1, h2, h3, h4⟩ := h
    simp only [List.cons_append, Ents]
    exact ⟨e', _, rfl, h1, h2, h3, h4.snoc a1 a2 a3⟩
end

section
variable {P : Program} {wb : World} {Θ : List (Nat × TI)} {G : Nat → Prop} {ρ : List Loc} {H : List Ob} {w : World} {a : Act} {env : List A} {K : A → List Ob → Prop}
theorem run_checkKey' {t : Nat} {k : IntKind} (h : P.underlying t = some (.int k)) (b : Bool) (d : Nat) (v : Value) (hv : ∃ kk n, v = .int kk n) : (Instr.checkKey b (d + 1) t v).run P w = .ok () w := by
  obtain ⟨kk, n, rfl⟩ := hv
  simp [Instr.checkKey, run_underlying h]
theorem run_checkKey {t : Nat} {k : IntKind} (h : P.underlying t = some (.int k)) (b : Bool) (v : Value) (hv : ∃ kk n, v = .int kk n) : (Instr.checkKey b 10000 t v).run P w = .ok () w :=
  run_checkKey' h b 9999 v hv
theorem run_findKey {t : Nat} {k : IntKind} (h : P.underlying t = some (.int k)) {v : Value} {es : List MapEntry} {r : Option (Nat × Value)} (hf : Instr.findNow (.int k) v es 0 = some r) : (Instr.findKey t v es).run P w = .ok r w := by
  simp [Instr.findKey, run_underlying h, hf]
theorem run_setObj_map {r : Nat} {o o' : Obj} (h : w.heap[r]? = some o) (hn : ∀ c t f, o ≠ .cells c t f) : (setObj r o').run P w = .ok () { w with heap := w.heap.setIfInBounds r o' } := by
  cases o <;> simp [setObj, Sem.run, h] <;> exact absurd rfl (hn _ _ _)

theorem TIok.intKey {t : Nat} {ti : TI} (h : TIok P t ti) {k : IntKind} (hk : ti.k = .int k) : P.underlying t = some (.int k) := by
  obtain ⟨d, h1, h2⟩ := h.und
  rw [hk] at h2
  simp only [kindOk] at h2
  subst h2
  exact h1
theorem TIok.mapT {t : Nat} {ti : TI} (h : TIok P t ti) {k e : Nat} (hk : ti.k = .map k e) : P.underlying t = some (.map k e) := by
  obtain ⟨d, h1, h2⟩ := h.und
  rw [hk] at h2
  simp only [kindOk] at h2
  subst h2
  exact h1

theorem out_makeMap (hS : SimH G wb ρ H w) {o : Oper} {t : Nat} {r : Option Operand} (ho : o.op = .makeMap t r)
    (h : opD P wb Θ (.makeMap t r) env H K) : OpOut P G wb ρ H w K ((execOp a.eval o).run P w) := by
  simp only [opD] at h
  cases r with
  | some r => exact h.elim
  | none =>
    obtain ⟨ti, h1, h2⟩ := tiK_out _ _ _ h
    clear h
    cases hk : ti.k with
    | map kt e =>
      rw [hk] at h2
      obtain ⟨tk, h3, h4⟩ := tiK_out _ _ _ h2
      cases hk' : tk.k with
      | int k =>
        rw [hk'] at h4
        have h4 := snocK_out _ _ _ (lenK_out _ _ _ h4)
        rw [Nat.zero_add] at h4
        have : (execOp a.eval o).run P w = .ok (.value (.map (some w.heap.size))) (w.alloc (.map #[] 0)) := by
          simp [execOp, ho, Instr.makeMap]
        rw [this]
        have hs := step_push (w' := w.alloc (.map #[] 0)) hS ⟨w.heap.size, 0, 0⟩ (.map k []) rfl rfl rfl (by simp) (fun b hb => heap_alloc_lt w _ b hb) (fun _ => ⟨Nat.le_refl _, by simp⟩)
        refine .val _ _ ⟨_, ρ ++ [⟨w.heap.size, 0, 0⟩], _, h4, ?_, ?_, hs⟩
        · refine sim_push hS _ _ rfl rfl rfl (by simp) (fun b hb => heap_alloc_lt w _ b hb) (fun _ => ⟨Nat.le_refl _, by simp⟩) ?_
          simp only [ObOk]
          exact ⟨#[], 0, heap_alloc_new w _, by simp [Ents]⟩
        · simp only [RV]
          refine ⟨⟨_, rfl⟩, by simp, fun _ _ _ => ⟨⟨w.heap.size, 0, 0⟩, ?_, rfl⟩⟩
          rw [getElem?_snoc, hS.len, if_neg (by omega), if_pos rfl]
      | _ => rw [hk'] at h4; exact h4.elim
    | _ => rw [hk] at h2; exact h2.elim

theorem out_lookup (hΘ : ΘOk P Θ) (hS : SimH G wb ρ H w) (hE : RVs ρ H (gd G ρ H) w env a.tmps.toList) {o : Oper} {t : Nat} {x ix : Operand} {ok : Bool} (ho : o.op = .lookup t x ix ok)
    (h : opD P wb Θ (.lookup t x ix ok) env H K) : OpOut P G wb ρ H w K ((execOp a.eval o).run P w) := by
  simp only [opD] at h
  obtain ⟨ti, h1, h2⟩ := tiK_out _ _ _ h
  clear h
  cases hk : ti.k with
  | map kt e =>
    rw [hk] at h2
    obtain ⟨tk, h3, h4⟩ := tiK_out _ _ _ h2
    clear h2
    cases hk' : tk.k with
    | int kd =>
      rw [hk'] at h4
      obtain ⟨te, he, h5⟩ := tiK_out _ _ _ h4
      obtain ⟨y, h6, hy⟩ := evK_out hE h5
      obtain ⟨iy, h7, hiy⟩ := evK_out hE h6
      clear h4 h5 h6
      have u1 := (hΘ _ _ h1).mapT hk
      have u2 := (hΘ _ _ h3).intKey hk'
      cases y with
      | mp ob =>
        obtain ⟨obj, hob, h8⟩ := getO_out _ _ _ h7
        cases obj with
        | map kk es =>
          obtain ⟨n, rfl, r, hr, h9⟩ := keyK_out h8
          simp only [RV, RD] at hy hiy
          obtain ⟨l, hl, ex⟩ := hy.2.2 _ _ hob
          have hok := hS.ok _ _ _ hl hob
          simp only [ObOk] at hok
          obtain ⟨ents, clock, hh, hents⟩ := hok
          obtain ⟨i, z, e1, e2, e3, e4, e5, e6, e7⟩ := (hΘ _ _ he).info
          have hzv : (zeroValue e).run P w = .ok z w := by simp [zeroValue, typeInfo, e1, e4]
          have hck := run_checkKey (w := w) u2 ents.isEmpty (.int kk n) ⟨_, _, rfl⟩
          subst hr
          rcases hents.find kd n 0 with ⟨a1, a2, _, _⟩ | ⟨p, x', e', a1, a2, a3, a4, a5, _, _⟩
          · rw [a1] at h9
            have hf := run_findKey (w := w) u2 a2
            have hrun : (execOp a.eval o).run P w = .ok (.value (if ok then .tuple #[z, .bool false] else z)) w := by
              simp [execOp, ho, Instr.lookup, run_underlying u1, ex, hiy.1, run_getObj_map hh, hck, hf, hzv]
            rw [hrun]
            have hz : ∃ zz, RV ρ H (gd G ρ H) w zz z ∧ (match ok with
                | true => K (.tup [zz, .d (.b false)]) H
                | false => K zz H) := by
              simp only [lkD] at h9
              cases hagg : te.k.agg with
              | true =>
                rw [hagg] at h9 e7
                simp only [if_true] at e7
                obtain ⟨cs, rfl⟩ := e7
                refine ⟨.agg te.zero, ?_, ?_⟩
                · simp only [RV]
                  exact ⟨cs, rfl, e6 ρ H _ w⟩
                · cases ok <;> exact h9
              | false =>
                rw [hagg] at h9 e7
                simp only [Bool.false_eq_true, if_false] at e7
                have h6' := e6 ρ H (gd G ρ H) w
                rw [e7] at h6'
                cases hzz : te.zero with
                | nil => rw [hzz] at h9; exact h9.elim
                | cons z1 zs =>
                  rw [hzz] at h9 h6'
                  cases zs with
                  | nil =>
                    simp only [RVs] at h6'
                    obtain ⟨v, r, hr, hv, _⟩ := h6'
                    simp at hr
                    obtain ⟨rfl, _⟩ := hr
                    refine ⟨z1, hv, ?_⟩
                    cases ok <;> exact h9
                  | cons _ _ => exact h9.elim
            obtain ⟨zz, hz1, hz2⟩ := hz
            cases ok with
            | true => exact .val _ _ (.same hS hz2 (by simp only [RV, RVs, RD]; exact ⟨#[z, .bool false], rfl, z, _, rfl, hz1, _, _, rfl, rfl, rfl⟩))
            | false => exact .val _ _ (.same hS hz2 hz1)
          · rw [a1] at h9
            have hf := run_findKey (w := w) u2 a5
            have hrun : (execOp a.eval o).run P w = .ok (.value (if ok then .tuple #[e'.val, .bool true] else e'.val)) w := by
              simp [execOp, ho, Instr.lookup, run_underlying u1, ex, hiy.1, run_getObj_map hh, hck, hf]
            rw [hrun]
            simp only [lkD] at h9
            cases ok with
            | true => exact .val _ _ (.same hS h9 (by simp only [RV, RVs, RD]; exact ⟨#[e'.val, .bool true], rfl, _, _, rfl, a4, _, _, rfl, rfl, rfl⟩))
            | false => exact .val _ _ (.same hS h9 a4)
        | _ => exact h8.elim
      | _ => exact h7.elim
    | _ => rw [hk'] at h4; exact h4.elim
  | _ => rw [hk] at h2; exact h2.elim

/-- a map's block is written -/
theorem map_write (hS : SimH G wb ρ H w) {o : Nat} {l : Loc} {k : IntKind} {es es' : List (Int × A)} (hl : ρ[o]? = some l) (hob : H[o]? = some (.map k es)) {ents ents' : Array MapEntry} {c c' : Nat}
    (hh : w.heap[l.blk]? = some (.map ents c))
    (hnew : Ents ρ H (gd G ρ H) w k es' ents'.toList) :
    SimH G wb ρ (H.set o (.map k es')) { w with heap := w.heap.setIfInBounds l.blk (.map ents' c') } ∧ Step ρ H w ρ (H.set o (.map k es')) { w with heap := w.heap.setIfInBounds l.blk (.map ents' c') } := by
  have ht : Turns (.map k es) (.map k es') l l := .inr ⟨⟨_, rfl⟩, rfl⟩
  have hlt : l.blk < w.heap.size := (Array.getElem?_eq_some_iff.1 hh).1
  have h5 : ∀ b, b < w.heap.size → ((Ob.map k es).owns l → b ≠ l.blk) → ({ w with heap := w.heap.setIfInBounds l.blk (.map ents' c') } : World).heap[b]? = w.heap[b]? := by
    intro b _ hb
    have hb := hb trivial
    simp only [Array.getElem?_setIfInBounds]
    rw [if_neg (fun e => hb e.symm)]
  have hst := step_set (w' := { w with heap := w.heap.setIfInBounds l.blk (.map ents' c') }) (l' := l) (ob' := .map k es') hS hl hob rfl rfl rfl (by simp) h5 ht (fun _ => .inl ⟨rfl, trivial⟩)
  have hsi := sim_set (w' := { w with heap := w.heap.setIfInBounds l.blk (.map ents' c') }) (l' := l) (ob' := .map k es') hS hl hob rfl rfl rfl (by simp) h5 ht (fun _ => .inl ⟨rfl, trivial⟩) (by
    simp only [ObOk]
    exact ⟨ents', c', by simp [hlt], Ents.move hst hS.len hst.good hst.kept k _ _ hnew⟩)
  rw [set_self hl] at hst hsi
  exact ⟨hsi, hst⟩

theorem out_mapUpdate (hΘ : ΘOk P Θ) (hS : SimH G wb ρ H w) (hE : RVs ρ H (gd G ρ H) w env a.tmps.toList) {o : Oper} {t : Nat} {x ix y : Operand} (ho : o.op = .mapUpdate t x ix y)
    (h : opD P wb Θ (.mapUpdate t x ix y) env H K) : OpOut P G wb ρ H w K ((execOp a.eval o).run P w) := by
  simp only [opD] at h
  obtain ⟨ti, h1, h2⟩ := tiK_out _ _ _ h
  clear h
  cases hk : ti.k with
  | map kt e =>
    rw [hk] at h2
    obtain ⟨tk, h3, h4⟩ := tiK_out _ _ _ h2
    clear h2
    cases hk' : tk.k with
    | int kd =>
      rw [hk'] at h4
      obtain ⟨xa, h6, hx⟩ := evK_out hE h4
      obtain ⟨iy, h7, hiy⟩ := evK_out hE h6
      obtain ⟨ya, h8, hy⟩ := evK_out hE h7
      clear h4 h6 h7
      have u1 := (hΘ _ _ h1).mapT hk
      have u2 := (hΘ _ _ h3).intKey hk'
      cases xa with
      | mp ob =>
        obtain ⟨obj, hob, h9⟩ := getO_out _ _ _ h8
        cases obj with
        | map kk es =>
          obtain ⟨n, rfl, h10⟩ := keyK_out h9
          have h10 := setK_out _ _ _ _ h10
          simp only [RV, RD] at hx hiy
          obtain ⟨l, hl, ex⟩ := hx.2.2 _ _ hob
          have hok := hS.ok _ _ _ hl hob
          simp only [ObOk] at hok
          obtain ⟨ents, clock, hh, hents⟩ := hok
          have hck := run_checkKey (w := w) u2 false (.int kk n) ⟨_, _, rfl⟩
          have hso := fun o' => run_setObj_map (P := P) (w := w) (o' := o') hh (by simp)
          rcases hents.find kd n 0 with ⟨a1, a2, a3, _⟩ | ⟨p, x', e', a1, a2, a3, a4, a5, a6, _⟩
          · have hf := run_findKey (w := w) u2 a2
            have hrun : (execOp a.eval o).run P w = .ok .skip { w with heap := w.heap.setIfInBounds l.blk (.map (ents.push { key := .int kk n, val := a.eval y, born := clock }) (clock + 1)) } := by
              simp [execOp, ho, Instr.mapUpdate, run_underlying u1, ex, hiy.1, run_getObj_map hh, hck, hf, hso]
            rw [hrun]
            rw [a3] at h10
            obtain ⟨s1, s2⟩ := map_write (es' := es ++ [(n, ya)]) (ents' := ents.push { key := .int kk n, val := a.eval y, born := clock }) (c' := clock + 1) hS hl hob hh (by
              rw [Array.toList_push]
              exact hents.snoc rfl hiy.2 hy)
            exact .skip _ ⟨_, _, _, h10, s1, by simp [RV], s2⟩
          · have hf := run_findKey (w := w) u2 a5
            rw [Nat.zero_add] at hf
            have hlt : p < ents.size := by
              rcases Nat.lt_or_ge p ents.size with h' | h'
              · exact h'
              · rw [List.getElem?_eq_none (by simpa using h')] at a2; cases a2
            have hge : ents[p]? = some e' := by simpa using a2
            have hks : (Instr.keyThatStays (.int kk n) (.int kk n)).run P w = .ok (.int kk n) w := by simp [Instr.keyThatStays, Instr.sameBits]
            have hrun : (execOp a.eval o).run P w = .ok .skip { w with heap := w.heap.setIfInBounds l.blk (.map (ents.modify p fun e => { e with key := .int kk n, val := a.eval y }) clock) } := by
              simp [execOp, ho, Instr.mapUpdate, run_underlying u1, ex, hiy.1, run_getObj_map hh, hck, hf, hso, hge, a3, hks]
            rw [hrun]
            rw [a6] at h10
            obtain ⟨s1, s2⟩ := map_write (es' := es.set p (n, ya)) (ents' := ents.modify p fun e => { e with key := .int kk n, val := a.eval y }) (c' := clock) hS hl hob hh (by
              have : (ents.modify p fun e => { e with key := .int kk n, val := a.eval y }).toList = ents.toList.set p { e' with key := .int kk n, val := a.eval y } := by
                apply List.ext_getElem?
                intro j
                rw [Array.getElem?_toList, Array.getElem?_modify, List.getElem?_set, Array.getElem?_toList]
                by_cases hj : p = j
                · subst hj
                  have : ents[p] = e' := by
                    rw [Array.getElem?_eq_getElem hlt] at hge
                    exact Option.some.inj hge
                  simp [hlt, this]
                · simp [hj]
              rw [this]
              exact hents.set rfl hiy.2 hy)
            exact .skip _ ⟨_, _, _, h10, s1, by simp [RV], s2⟩
        | _ => exact h9.elim
      | _ => exact h8.elim
    | _ => rw [hk'] at h4; exact h4.elim
  | _ => rw [hk] at h2; exact h2.elim

theorem out_delete (hΘ : ΘOk P Θ) (hS : SimH G wb ρ H w) (hE : RVs ρ H (gd G ρ H) w env a.tmps.toList) {o : Oper} {t : Nat} {ts : List Nat} {ct : Array Nat} {x ix : Operand} (ho : o.op = .call ⟨.builtin .delete, #[x, ix], ct⟩) (hct : ct.toList = t :: ts)
    (h : tiK Θ t fun ti => match ti.k with
        | .map kt _ => tiK Θ kt fun tk => match tk.k with
          | .int _ => evK env x fun v => evK env ix fun kv => (match v with
            | .mp o => getO H o fun ob => match ob with
              | .map kk es => keyK kk kv fun k => setK H o (.map kk (mapDel es k)) fun H' => K (.tup []) H'
              | _ => False
            | _ => False)
          | _ => False
        | _ => False) : OpOut P G wb ρ H w K ((execOp a.eval o).run P w) := by
  obtain ⟨ti, h1, h2⟩ := tiK_out _ _ _ h
  clear h
  have hc0 : ct[0]? = some t := by
    rw [← Array.getElem?_toList, hct]
    rfl
  cases hk : ti.k with
  | map kt e =>
    rw [hk] at h2
    obtain ⟨tk, h3, h4⟩ := tiK_out _ _ _ h2
    clear h2
    cases hk' : tk.k with
    | int kd =>
      rw [hk'] at h4
      obtain ⟨xa, h6, hx⟩ := evK_out hE h4
      obtain ⟨iy, h8, hiy⟩ := evK_out hE h6
      clear h4 h6
      have u1 := (hΘ _ _ h1).mapT hk
      have u2 := (hΘ _ _ h3).intKey hk'
      cases xa with
      | mp ob =>
        obtain ⟨obj, hob, h9⟩ := getO_out _ _ _ h8
        cases obj with
        | map kk es =>
          obtain ⟨n, rfl, h10⟩ := keyK_out h9
          have h10 := setK_out _ _ _ _ h10
          simp only [RV, RD] at hx hiy
          obtain ⟨l, hl, ex⟩ := hx.2.2 _ _ hob
          have hok := hS.ok _ _ _ hl hob
          simp only [ObOk] at hok
          obtain ⟨ents, clock, hh, hents⟩ := hok
          have hck := run_checkKey (w := w) u2 ents.isEmpty (.int kk n) ⟨_, _, rfl⟩
          have hso := fun o' => run_setObj_map (P := P) (w := w) (o' := o') hh (by simp)
          rcases hents.find kd n 0 with ⟨a1, a2, _, a3⟩ | ⟨p, x', e', a1, a2, a3, a4, a5, _, a6⟩
          · have hf := run_findKey (w := w) u2 a2
            have hrun : (execOp a.eval o).run P w = .ok (.value (.tuple #[])) { w with heap := w.heap.setIfInBounds l.blk (.map ents clock) } := by
              simp [execOp, ho, resolve, invoke, builtin, Builtin.delete_, hc0, run_underlying u1, ex, hiy.1, run_getObj_map hh, hck, hf, hso]
            rw [hrun]
            obtain ⟨s1, s2⟩ := map_write (es' := mapDel es n) (ents' := ents) (c' := clock) hS hl hob hh (by rw [a3]; exact hents)
            exact .val _ _ ⟨_, _, _, h10, s1, by simp [RV, RVs], s2⟩
          · have hf := run_findKey (w := w) u2 a5
            rw [Nat.zero_add] at hf
            have hrun : (execOp a.eval o).run P w = .ok (.value (.tuple #[])) { w with heap := w.heap.setIfInBounds l.blk (.map (ents.eraseIdxIfInBounds p) clock) } := by
              simp [execOp, ho, resolve, invoke, builtin, Builtin.delete_, hc0, run_underlying u1, ex, hiy.1, run_getObj_map hh, hck, hf, hso]
            rw [hrun]
            obtain ⟨s1, s2⟩ := map_write (es' := mapDel es n) (ents' := ents.eraseIdxIfInBounds p) (c' := clock) hS hl hob hh (by
              rw [a6, Array.toList_eraseIdxIfInBounds]
              exact hents.erase p)
            exact .val _ _ ⟨_, _, _, h10, s1, by simp [RV, RVs], s2⟩
        | _ => exact h9.elim
      | _ => exact h8.elim
    | _ => rw [hk'] at h4; exact h4.elim
  | _ => rw [hk] at h2; exact h2.elim
end
end Go.DL
