/- Abstract values and their reading in memory (a layer over the kit's Code.wp and Calls). -/
import Derived.WalkKit
import Derived.KernelRfl
namespace Go.DL
open Go.RowKit

inductive D where
  | b (x : Bool)
  | i (k : IntKind) (n : Int)
  | s (x : ByteArray)
  | sl (els : List (List D))
instance : Inhabited D := ⟨.b false⟩

inductive A where
  | undef
  | d (x : D)
  | agg (cs : List A)
  | tup (vs : List A)
  | ptr (o off : Nat)
  | fp (row : List D)
  | vp (o g idx off : Nat)
  | vs (o g off : Nat)
  | es
  | fn (f : Nat) (fs cs : List A)
  | nilp
  | nilf
  | mp (o : Nat)
  | nilm
instance : Inhabited A := ⟨.undef⟩

inductive Ob where
  | box (cs : List A)
  | vec (g es : Nat) (els : List (List A))
  | map (k : IntKind) (es : List (Int × A))
  | gone
instance : Inhabited Ob := ⟨.gone⟩

structure Loc where
  blk : Nat
  off : Nat
  cap : Nat

def A.one : A → Bool
  | .undef => false
  | .agg _ => false
  | .tup _ => false
  | _ => true
def Ob.owns : Ob → Loc → Prop
  | .box _, _ => True
  | .vec .., l => 0 < l.cap
  | .map .., _ => True
  | .gone, _ => False

def owned (ρ : List Loc) (H : List Ob) (b : Nat) : Prop := ∃ (o : Nat) (l : Loc) (ob : Ob), ρ[o]? = some l ∧ H[o]? = some ob ∧ ob.owns l ∧ l.blk = b
def gd (G : Nat → Prop) (ρ : List Loc) (H : List Ob) (b : Nat) : Prop := G b ∧ ¬ owned ρ H b

mutual
def RD (g : Nat → Prop) (w : World) : D → Value → Prop
  | .b x, v => v = .bool x
  | .i k n, v => v = .int k n ∧ k.wrap n = n
  | .s x, v => v = .string x ∧ x.size ≤ maxLen
  | .sl els, v => ∃ a c es, v = .slice a els.length c ∧ els.length ≤ c ∧ c ≤ maxLen ∧ 0 < es ∧
      (els = [] ∨ ∃ blk off, a = some ⟨blk, off, none⟩ ∧ g blk ∧ RDrows g w es els blk off)
def RDrows (g : Nat → Prop) (w : World) (es : Nat) : List (List D) → Nat → Nat → Prop
  | [], _, _ => True
  | r :: rs, blk, off => r.length = es ∧ RDs g w r blk off ∧ RDrows g w es rs blk (off + es)
def RDs (g : Nat → Prop) (w : World) : List D → Nat → Nat → Prop
  | [], _, _ => True
  | x :: xs, blk, off => (∃ u, w.cell? ⟨blk, off, none⟩ = some u ∧ RD g w x u) ∧ RDs g w xs blk (off + 1)
end

mutual
def RV (ρ : List Loc) (H : List Ob) (g : Nat → Prop) (w : World) : A → Value → Prop
  | .undef, _ => True
  | .d x, v => RD g w x v
  | .agg cs, v => ∃ vs, v = .agg vs ∧ RVs ρ H g w cs vs.toList
  | .tup cs, v => ∃ vs, v = .tuple vs ∧ RVs ρ H g w cs vs.toList
  | .ptr o off, v => (∃ a, v = .pointer a) ∧ o < H.length ∧ ∀ cs, H[o]? = some (.box cs) → ∃ l, ρ[o]? = some l ∧ v = .pointer (some ⟨l.blk, off, none⟩)
  | .fp row, v => ∃ blk off, v = .pointer (some ⟨blk, off, none⟩) ∧ (row ≠ [] → g blk) ∧ RDs g w row blk off
  | .vp o gn idx off, v => (∃ a, v = .pointer a) ∧ o < H.length ∧ ∀ gc es els, H[o]? = some (.vec gc es els) → gn ≤ gc ∧ (gn = gc →
      ∃ l, ρ[o]? = some l ∧ idx < els.length ∧ v = .pointer (some ⟨l.blk, l.off + idx * es + off, none⟩))
  | .vs o gn off, v => (∃ a n c, v = .slice a n c) ∧ o < H.length ∧ ∀ gc es els, H[o]? = some (.vec gc es els) → gn ≤ gc ∧ (gn = gc →
      ∃ l a, ρ[o]? = some l ∧ off ≤ els.length ∧ v = .slice a (els.length - off) (l.cap - off) ∧ (off < l.cap → a = some ⟨l.blk, l.off + off * es, none⟩))
  | .es, v => ∃ a, v = .slice a 0 0
  | .fn f fs cs, v => ∃ x y, v = .func (.func f) x y ∧ RVs ρ H g w fs x.toList ∧ RVs ρ H g w cs y.toList
  | .nilp, v => v = .pointer none
  | .nilf, v => v = .nilFunc
  | .mp o, v => (∃ r, v = .map r) ∧ o < H.length ∧ ∀ k es, H[o]? = some (.map k es) → ∃ l, ρ[o]? = some l ∧ v = .map (some l.blk)
  | .nilm, v => v = .map none
def RVs (ρ : List Loc) (H : List Ob) (g : Nat → Prop) (w : World) : List A → List Value → Prop
  | [], vs => vs = []
  | x :: xs, vs => ∃ v r, vs = v :: r ∧ RV ρ H g w x v ∧ RVs ρ H g w xs r
end

/-- cells one after the other, each of one value -/
def RVcells (ρ : List Loc) (H : List Ob) (g : Nat → Prop) (w : World) : List A → Nat → Nat → Prop
  | [], _, _ => True
  | x :: xs, blk, off => x.one = true ∧ (∃ u, w.cell? ⟨blk, off, none⟩ = some u ∧ RV ρ H g w x u) ∧ RVcells ρ H g w xs blk (off + 1)
def RVrows (ρ : List Loc) (H : List Ob) (g : Nat → Prop) (w : World) (es : Nat) : List (List A) → Nat → Nat → Prop
  | [], _, _ => True
  | r :: rs, blk, off => r.length = es ∧ RVcells ρ H g w r blk off ∧ RVrows ρ H g w es rs blk (off + es)

def Ents (ρ : List Loc) (H : List Ob) (g : Nat → Prop) (w : World) (k : IntKind) : List (Int × A) → List MapEntry → Prop
  | [], es => es = []
  | x :: xs, es => ∃ e r, es = e :: r ∧ e.key = .int k x.1 ∧ k.wrap x.1 = x.1 ∧ RV ρ H g w x.2 e.val ∧ Ents ρ H g w k xs r

def ObOk (ρ : List Loc) (H : List Ob) (g : Nat → Prop) (w : World) (l : Loc) : Ob → Prop
  | .box cs => ∃ vs T, w.heap[l.blk]? = some (.cells vs T (0, 0)) ∧ RVs ρ H g w cs vs.toList
  | .vec _ es els => els.length ≤ l.cap ∧ l.cap ≤ maxLen ∧ 0 < es ∧
      (0 < l.cap → ∃ cs T, w.heap[l.blk]? = some (.cells cs T (0, 0)) ∧ l.off + l.cap * es ≤ cs.size) ∧ RVrows ρ H g w es els l.blk l.off
  | .map k es => ∃ ents clock, w.heap[l.blk]? = some (.map ents clock) ∧ Ents ρ H g w k es ents.toList
  | .gone => True

structure SimH (G : Nat → Prop) (wb : World) (ρ : List Loc) (H : List Ob) (w : World) : Prop where
  len : ρ.length = H.length
  base : Below wb.heap.size wb w
  ok : ∀ (o : Nat) (l : Loc) (ob : Ob), ρ[o]? = some l → H[o]? = some ob → ObOk ρ H (gd G ρ H) w l ob
  lt : ∀ (o : Nat) (l : Loc) (ob : Ob), ρ[o]? = some l → H[o]? = some ob → ob.owns l → wb.heap.size ≤ l.blk ∧ l.blk < w.heap.size
  inj : ∀ (o o' : Nat) (l l' : Loc) (ob ob' : Ob), ρ[o]? = some l → ρ[o']? = some l' → H[o]? = some ob → H[o']? = some ob' → ob.owns l → ob'.owns l' → l.blk = l'.blk → o = o'
  gup : ∀ b, w.heap.size ≤ b → G b
  gown : ∀ (o : Nat) (l : Loc) (ob : Ob), ρ[o]? = some l → H[o]? = some ob → ob.owns l → G l.blk

/-- what one object may become -/
def Turns (ob ob' : Ob) (l l' : Loc) : Prop :=
  ob' = .gone ∨
  match ob with
  | .box _ => (∃ cs', ob' = .box cs') ∧ l'.blk = l.blk
  | .vec g es els => ∃ g' els', ob' = .vec g' es els' ∧ g ≤ g' ∧ (g' = g → els'.length = els.length ∧ l' = l)
  | .map k _ => (∃ es', ob' = .map k es') ∧ l'.blk = l.blk
  | .gone => False

structure Step (ρ : List Loc) (H : List Ob) (w : World) (ρ' : List Loc) (H' : List Ob) (w' : World) : Prop where
  os : w'.os = w.os
  tape : w'.tape = w.tape
  output : w'.output = w.output
  size : w.heap.size ≤ w'.heap.size
  same : ∀ b, b < w.heap.size → ¬ owned ρ H b → w'.heap[b]? = w.heap[b]?
  own : ∀ b, b < w.heap.size → owned ρ' H' b → owned ρ H b
  hlen : H.length ≤ H'.length
  turn : ∀ (o : Nat) (l : Loc) (ob : Ob), ρ[o]? = some l → H[o]? = some ob → ∃ l' ob', ρ'[o]? = some l' ∧ H'[o]? = some ob' ∧ Turns ob ob' l l'

structure CallOk (P : Program) (wb : World) (f : Nat) (xs : List A) (H : List Ob) (R : A → List Ob → Prop) : Prop where
  ent : ∀ (args : Array Value) (w : World), (callFunc f args).run P w = .ok (.enter f args) w
  out : ∀ G ρ w vs, SimH G wb ρ H w → RVs ρ H (gd G ρ H) w xs vs →
    Calls P f vs.toArray w fun e w' => ∃ v r ρ' H', e = .returned v ∧ R r H' ∧ SimH G wb ρ' H' w' ∧ RV ρ' H' (gd G ρ' H') w' r v ∧ Step ρ H w ρ' H' w'

inductive Ex where
  | normal
  | exit (id : Nat)
  | ret

def Ex.of : Exit → Ex → Prop
  | .normal, .normal => True
  | .exit i, .exit j => i = j
  | .ret, .ret => True
  | _, _ => False

structure TriS (P : Program) (wb : World) (c : Code) (env : List A) (H : List Ob) (Q : Ex → List A → List Ob → Prop) : Prop where
  out : ∀ G ρ a w, SimH G wb ρ H w → a.defers = [] → RVs ρ H (gd G ρ H) w env a.tmps.toList →
    c.wp P (fun e a' w' => ∃ e' ρ' env' H', Ex.of e e' ∧ Q e' env' H' ∧ SimH G wb ρ' H' w' ∧ a'.defers = [] ∧ RVs ρ' H' (gd G ρ' H') w' env' a'.tmps.toList ∧ Step ρ H w ρ' H' w') a w

/-! transport -/
theorem Step.refl (ρ : List Loc) (H : List Ob) (w : World) : Step ρ H w ρ H w :=
  ⟨rfl, rfl, rfl, Nat.le_refl _, fun _ _ _ => rfl, fun _ _ h => h, Nat.le_refl _, fun o l ob h1 h2 => ⟨l, ob, h1, h2, by
    cases ob with
    | box cs => exact .inr ⟨⟨cs, rfl⟩, rfl⟩
    | vec g es els => exact .inr ⟨g, els, rfl, Nat.le_refl _, fun _ => ⟨rfl, rfl⟩⟩
    | map k es => exact .inr ⟨⟨es, rfl⟩, rfl⟩
    | gone => exact .inl rfl⟩⟩

theorem Turns.trans {a b c : Ob} {l m n : Loc} (h : Turns a b l m) (k : Turns b c m n) : Turns a c l n := by
  rcases k with k | k
  · exact .inl k
  rcases h with rfl | h
  · exact k.elim
  right
  cases a with
  | box cs => obtain ⟨⟨cs', rfl⟩, h⟩ := h; obtain ⟨⟨cs'', rfl⟩, k⟩ := k; exact ⟨⟨_, rfl⟩, k.trans h⟩
  | vec g es els =>
    obtain ⟨g', els', rfl, hg, hs⟩ := h
    obtain ⟨g'', els'', rfl, kg, ks⟩ := k
    refine ⟨g'', els'', rfl, Nat.le_trans hg kg, fun e => ?_⟩
    have e1 : g' = g := by omega
    have e2 : g'' = g' := by omega
    exact ⟨(ks e2).1.trans (hs e1).1, (ks e2).2.trans (hs e1).2⟩
  | map kk es => obtain ⟨⟨cs', rfl⟩, h⟩ := h; obtain ⟨⟨cs'', rfl⟩, k⟩ := k; exact ⟨⟨_, rfl⟩, k.trans h⟩
  | gone => exact h.elim

theorem Step.trans {ρ ρ' ρ'' : List Loc} {H H' H'' : List Ob} {w w' w'' : World} (h : Step ρ H w ρ' H' w') (k : Step ρ' H' w' ρ'' H'' w'') : Step ρ H w ρ'' H'' w'' := by
  refine ⟨k.os.trans h.os, k.tape.trans h.tape, k.output.trans h.output, Nat.le_trans h.size k.size, ?_, ?_, Nat.le_trans h.hlen k.hlen, ?_⟩
  · intro b hb hn
    rw [k.same b (Nat.lt_of_lt_of_le hb h.size) (fun ho => hn (h.own b hb ho)), h.same b hb hn]
  · intro b hb ho
    exact h.own b hb (k.own b (Nat.lt_of_lt_of_le hb h.size) ho)
  · intro o l ob h1 h2
    obtain ⟨l', ob', a1, a2, t⟩ := h.turn o l ob h1 h2
    obtain ⟨l'', ob'', b1, b2, t'⟩ := k.turn o l' ob' a1 a2
    exact ⟨l'', ob'', b1, b2, t.trans t'⟩

theorem cell_lt {w : World} {a : Addr} {u : Value} (h : w.cell? a = some u) : a.block < w.heap.size := World.block_lt_of_cell? w a h

mutual
theorem RD.move {g g' : Nat → Prop} {w w' : World} (hg : ∀ b, b < w.heap.size → g b → g' b) (hh : ∀ b, b < w.heap.size → g b → w'.heap[b]? = w.heap[b]?) :
    ∀ (x : D) (v : Value), RD g w x v → RD g' w' x v
  | .b _, _, h => by simpa [RD] using h
  | .i _ _, _, h => by simpa [RD] using h
  | .s _, _, h => by simpa [RD] using h
  | .sl els, v, h => by
    simp only [RD] at h ⊢
    obtain ⟨a, c, es, rfl, h1, h2, h3, h4⟩ := h
    refine ⟨a, c, es, rfl, h1, h2, h3, ?_⟩
    rcases h4 with h4 | ⟨blk, off, rfl, hb, hr⟩
    · exact .inl h4
    · by_cases hlt : blk < w.heap.size
      · exact .inr ⟨blk, off, rfl, hg _ hlt hb, RDrows.move hg hh es els blk off (fun _ => hh _ hlt hb) hr⟩
      · cases els with
        | nil => exact .inl rfl
        | cons r rs =>
          exfalso
          simp only [RDrows] at hr
          obtain ⟨hl, hr, _⟩ := hr
          cases r with
          | nil => simp at hl; omega
          | cons x xs =>
            simp only [RDs] at hr
            obtain ⟨⟨u, hu, _⟩, _⟩ := hr
            exact hlt (cell_lt hu)
theorem RDrows.move {g g' : Nat → Prop} {w w' : World} (hg : ∀ b, b < w.heap.size → g b → g' b) (hh : ∀ b, b < w.heap.size → g b → w'.heap[b]? = w.heap[b]?) (es : Nat) :
    ∀ (els : List (List D)) (blk off : Nat), (blk < w.heap.size → w'.heap[blk]? = w.heap[blk]?) → RDrows g w es els blk off → RDrows g' w' es els blk off
  | [], _, _, _, _ => by simp [RDrows]
  | r :: rs, blk, off, hb, h => by
    simp only [RDrows] at h ⊢
    exact ⟨h.1, RDs.move hg hh r blk off hb h.2.1, RDrows.move hg hh es rs blk _ hb h.2.2⟩
theorem RDs.move {g g' : Nat → Prop} {w w' : World} (hg : ∀ b, b < w.heap.size → g b → g' b) (hh : ∀ b, b < w.heap.size → g b → w'.heap[b]? = w.heap[b]?) :
    ∀ (xs : List D) (blk off : Nat), (blk < w.heap.size → w'.heap[blk]? = w.heap[blk]?) → RDs g w xs blk off → RDs g' w' xs blk off
  | [], _, _, _, _ => by simp [RDs]
  | x :: xs, blk, off, hb, h => by
    simp only [RDs] at h ⊢
    obtain ⟨⟨u, hu, hx⟩, hr⟩ := h
    refine ⟨⟨u, ?_, RD.move hg hh x u hx⟩, RDs.move hg hh xs blk _ hb hr⟩
    rw [World.cell?_of_block (w := w) (hb (cell_lt hu))]
    exact hu
end

theorem turn_back {ρ ρ' : List Loc} {H H' : List Ob} {w w' : World} (hs : Step ρ H w ρ' H' w') (hl : ρ.length = H.length) {o : Nat} (ho : o < H.length) {ob' : Ob} (h' : H'[o]? = some ob') :
    ∃ l l' ob, ρ[o]? = some l ∧ H[o]? = some ob ∧ ρ'[o]? = some l' ∧ Turns ob ob' l l' := by
  obtain ⟨l', ob'', a1, a2, t⟩ := hs.turn o (ρ[o]'(by omega)) (H[o]'ho) (by simp) (by simp)
  rw [h'] at a2
  cases a2
  exact ⟨_, l', _, by simp, by simp, a1, t⟩

mutual
theorem RV.move {ρ ρ' : List Loc} {H H' : List Ob} {w w' : World} {g g' : Nat → Prop} (hs : Step ρ H w ρ' H' w') (hl : ρ.length = H.length)
    (hg : ∀ b, b < w.heap.size → g b → g' b) (hh : ∀ b, b < w.heap.size → g b → w'.heap[b]? = w.heap[b]?) :
    ∀ (x : A) (v : Value), RV ρ H g w x v → RV ρ' H' g' w' x v
  | .undef, _, _ => by simp [RV]
  | .d x, v, h => by simp only [RV] at h ⊢; exact RD.move hg hh x v h
  | .agg cs, v, h => by
    simp only [RV] at h ⊢
    obtain ⟨vs, rfl, h⟩ := h
    exact ⟨vs, rfl, RVs.move hs hl hg hh cs _ h⟩
  | .tup cs, v, h => by
    simp only [RV] at h ⊢
    obtain ⟨vs, rfl, h⟩ := h
    exact ⟨vs, rfl, RVs.move hs hl hg hh cs _ h⟩
  | .ptr o off, v, h => by
    simp only [RV] at h ⊢
    refine ⟨h.1, Nat.lt_of_lt_of_le h.2.1 hs.hlen, fun cs' hc => ?_⟩
    obtain ⟨l, l', ob, h1, h2, h3, t⟩ := turn_back hs hl h.2.1 hc
    rcases t with t | t
    · cases t
    · cases ob with
      | box cs =>
        obtain ⟨m, hm, rfl⟩ := h.2.2 cs h2
        rw [h1] at hm
        cases hm
        exact ⟨l', h3, by rw [t.2]⟩
      | vec g es els => obtain ⟨g', els', t, _⟩ := t; cases t
      | map k es => obtain ⟨⟨es', t⟩, _⟩ := t; cases t
      | gone => exact t.elim
  | .fp row, v, h => by
    simp only [RV] at h ⊢
    obtain ⟨blk, off, rfl, hb, hr⟩ := h
    cases row with
    | nil => exact ⟨blk, off, rfl, by simp, by simp [RDs]⟩
    | cons x xs =>
      have hlt : blk < w.heap.size := by
        simp only [RDs] at hr
        obtain ⟨⟨u, hu, _⟩, _⟩ := hr
        exact cell_lt hu
      have hb := hb (by simp)
      exact ⟨blk, off, rfl, fun _ => hg _ hlt hb, RDs.move hg hh _ blk off (fun _ => hh _ hlt hb) hr⟩
  | .vp o gn idx off, v, h => by
    simp only [RV] at h ⊢
    refine ⟨h.1, Nat.lt_of_lt_of_le h.2.1 hs.hlen, fun gc es' els' hc => ?_⟩
    obtain ⟨l, l', ob, h1, h2, h3, t⟩ := turn_back hs hl h.2.1 hc
    rcases t with t | t
    · cases t
    · cases ob with
      | box cs => obtain ⟨⟨cs', t⟩, _⟩ := t; cases t
      | vec g es els =>
        obtain ⟨g', els'', t, hgg, hsame⟩ := t
        cases t
        obtain ⟨k1, k2⟩ := h.2.2 _ _ _ h2
        refine ⟨by omega, fun e => ?_⟩
        have e1 : gn = g := by omega
        obtain ⟨m, hm, hi, rfl⟩ := k2 e1
        rw [h1] at hm
        cases hm
        obtain ⟨e2, rfl⟩ := hsame (by omega)
        exact ⟨_, h3, by omega, rfl⟩
      | map k es => obtain ⟨⟨es', t⟩, _⟩ := t; cases t
      | gone => exact t.elim
  | .vs o gn off, v, h => by
    simp only [RV] at h ⊢
    refine ⟨h.1, Nat.lt_of_lt_of_le h.2.1 hs.hlen, fun gc es' els' hc => ?_⟩
    obtain ⟨l, l', ob, h1, h2, h3, t⟩ := turn_back hs hl h.2.1 hc
    rcases t with t | t
    · cases t
    · cases ob with
      | box cs => obtain ⟨⟨cs', t⟩, _⟩ := t; cases t
      | vec g es els =>
        obtain ⟨g', els'', t, hgg, hsame⟩ := t
        cases t
        obtain ⟨k1, k2⟩ := h.2.2 _ _ _ h2
        refine ⟨by omega, fun e => ?_⟩
        have e1 : gn = g := by omega
        obtain ⟨m, a, hm, hi, rfl, ha⟩ := k2 e1
        rw [h1] at hm
        cases hm
        obtain ⟨e2, rfl⟩ := hsame (by omega)
        exact ⟨_, a, h3, by omega, by rw [e2], ha⟩
      | map k es => obtain ⟨⟨es', t⟩, _⟩ := t; cases t
      | gone => exact t.elim
  | .es, v, h => by simpa [RV] using h
  | .fn f fs cs, v, h => by
    simp only [RV] at h ⊢
    obtain ⟨x, y, rfl, h1, h2⟩ := h
    exact ⟨x, y, rfl, RVs.move hs hl hg hh fs _ h1, RVs.move hs hl hg hh cs _ h2⟩
  | .nilp, v, h => by simpa [RV] using h
  | .nilf, v, h => by simpa [RV] using h
  | .mp o, v, h => by
    simp only [RV] at h ⊢
    refine ⟨h.1, Nat.lt_of_lt_of_le h.2.1 hs.hlen, fun k' es' hc => ?_⟩
    obtain ⟨l, l', ob, h1, h2, h3, t⟩ := turn_back hs hl h.2.1 hc
    rcases t with t | t
    · cases t
    · cases ob with
      | box cs => obtain ⟨⟨cs', t⟩, _⟩ := t; cases t
      | vec g es els => obtain ⟨g', els', t, _⟩ := t; cases t
      | map k es =>
        obtain ⟨m, hm, rfl⟩ := h.2.2 k es h2
        rw [h1] at hm
        cases hm
        exact ⟨l', h3, by rw [t.2]⟩
      | gone => exact t.elim
  | .nilm, v, h => by simpa [RV] using h
theorem RVs.move {ρ ρ' : List Loc} {H H' : List Ob} {w w' : World} {g g' : Nat → Prop} (hs : Step ρ H w ρ' H' w') (hl : ρ.length = H.length)
    (hg : ∀ b, b < w.heap.size → g b → g' b) (hh : ∀ b, b < w.heap.size → g b → w'.heap[b]? = w.heap[b]?) :
    ∀ (xs : List A) (vs : List Value), RVs ρ H g w xs vs → RVs ρ' H' g' w' xs vs
  | [], _, h => by simpa [RVs] using h
  | x :: xs, vs, h => by
    simp only [RVs] at h ⊢
    obtain ⟨v, r, rfl, h1, h2⟩ := h
    exact ⟨v, r, rfl, RV.move hs hl hg hh x v h1, RVs.move hs hl hg hh xs r h2⟩
end

theorem RVcells.move {ρ ρ' : List Loc} {H H' : List Ob} {w w' : World} {g g' : Nat → Prop} (hs : Step ρ H w ρ' H' w') (hl : ρ.length = H.length)
    (hg : ∀ b, b < w.heap.size → g b → g' b) (hh : ∀ b, b < w.heap.size → g b → w'.heap[b]? = w.heap[b]?) :
    ∀ (xs : List A) (blk off : Nat), (blk < w.heap.size → w'.heap[blk]? = w.heap[blk]?) → RVcells ρ H g w xs blk off → RVcells ρ' H' g' w' xs blk off
  | [], _, _, _, _ => by simp [RVcells]
  | x :: xs, blk, off, hb, h => by
    simp only [RVcells] at h ⊢
    obtain ⟨h1, ⟨u, hu, hx⟩, hr⟩ := h
    refine ⟨h1, ⟨u, ?_, RV.move hs hl hg hh x u hx⟩, RVcells.move hs hl hg hh xs blk _ hb hr⟩
    rw [World.cell?_of_block (w := w) (hb (cell_lt hu))]
    exact hu
theorem RVrows.move {ρ ρ' : List Loc} {H H' : List Ob} {w w' : World} {g g' : Nat → Prop} (hs : Step ρ H w ρ' H' w') (hl : ρ.length = H.length)
    (hg : ∀ b, b < w.heap.size → g b → g' b) (hh : ∀ b, b < w.heap.size → g b → w'.heap[b]? = w.heap[b]?) (es : Nat) :
    ∀ (els : List (List A)) (blk off : Nat), (blk < w.heap.size → w'.heap[blk]? = w.heap[blk]?) → RVrows ρ H g w es els blk off → RVrows ρ' H' g' w' es els blk off
  | [], _, _, _, _ => by simp [RVrows]
  | r :: rs, blk, off, hb, h => by
    simp only [RVrows] at h ⊢
    exact ⟨h.1, RVcells.move hs hl hg hh r blk off hb h.2.1, RVrows.move hs hl hg hh es rs blk _ hb h.2.2⟩

theorem Ents.move {ρ ρ' : List Loc} {H H' : List Ob} {w w' : World} {g g' : Nat → Prop} (hs : Step ρ H w ρ' H' w') (hl : ρ.length = H.length)
    (hg : ∀ b, b < w.heap.size → g b → g' b) (hh : ∀ b, b < w.heap.size → g b → w'.heap[b]? = w.heap[b]?) (k : IntKind) :
    ∀ (xs : List (Int × A)) (es : List MapEntry), Ents ρ H g w k xs es → Ents ρ' H' g' w' k xs es
  | [], _, h => by simpa [Ents] using h
  | x :: xs, es, h => by
    simp only [Ents] at h ⊢
    obtain ⟨e, r, rfl, h1, h2, h3, h4⟩ := h
    exact ⟨e, r, rfl, h1, h2, RV.move hs hl hg hh _ _ h3, Ents.move hs hl hg hh k xs r h4⟩

section
variable {G : Nat → Prop} {wb : World} {ρ ρ' : List Loc} {H H' : List Ob} {w w' : World}
theorem Step.good (hs : Step ρ H w ρ' H' w') : ∀ b, b < w.heap.size → gd G ρ H b → gd G ρ' H' b :=
  fun b hb h => ⟨h.1, fun ho => h.2 (hs.own b hb ho)⟩
theorem Step.kept (hs : Step ρ H w ρ' H' w') : ∀ b, b < w.heap.size → gd G ρ H b → w'.heap[b]? = w.heap[b]? :=
  fun b hb h => hs.same b hb h.2
theorem Step.rv (hs : Step ρ H w ρ' H' w') (hl : ρ.length = H.length) {x : A} {v : Value} (h : RV ρ H (gd G ρ H) w x v) : RV ρ' H' (gd G ρ' H') w' x v :=
  RV.move hs hl hs.good hs.kept x v h
theorem Step.rvs (hs : Step ρ H w ρ' H' w') (hl : ρ.length = H.length) {xs : List A} {vs : List Value} (h : RVs ρ H (gd G ρ H) w xs vs) : RVs ρ' H' (gd G ρ' H') w' xs vs :=
  RVs.move hs hl hs.good hs.kept xs vs h
theorem Step.rd (hs : Step ρ H w ρ' H' w') {x : D} {v : Value} (h : RD (gd G ρ H) w x v) : RD (gd G ρ' H') w' x v :=
  RD.move hs.good hs.kept x v h
/-- an object whose block has not changed -/
theorem ObOk.move (hs : Step ρ H w ρ' H' w') (hl : ρ.length = H.length) {l : Loc} {ob : Ob} (hb : ob.owns l → w'.heap[l.blk]? = w.heap[l.blk]?)
    (h : ObOk ρ H (gd G ρ H) w l ob) : ObOk ρ' H' (gd G ρ' H') w' l ob := by
  cases ob with
  | box cs =>
    simp only [ObOk] at h ⊢
    obtain ⟨vs, T, h1, h2⟩ := h
    exact ⟨vs, T, by rw [hb trivial]; exact h1, hs.rvs hl h2⟩
  | vec gn es els =>
    simp only [ObOk] at h ⊢
    obtain ⟨h1, h2, h3, h4, h5⟩ := h
    refine ⟨h1, h2, h3, fun hc => ?_, ?_⟩
    · rw [hb hc]; exact h4 hc
    · cases els with
      | nil => simp [RVrows]
      | cons r rs => exact RVrows.move hs hl hs.good hs.kept es _ _ _ (fun _ => hb (show 0 < l.cap by simp at h1; omega)) h5
  | map k es =>
    simp only [ObOk] at h ⊢
    obtain ⟨ents, clock, h1, h2⟩ := h
    exact ⟨ents, clock, by rw [hb trivial]; exact h1, Ents.move hs hl hs.good hs.kept k es _ h2⟩
  | gone => trivial

theorem heap_alloc_lt (w : World) (o : Obj) (b : Nat) (h : b < w.heap.size) : (w.alloc o).heap[b]? = w.heap[b]? := Below.heap_alloc w o b h
theorem owned_lt (hS : SimH G wb ρ H w) {b : Nat} (h : owned ρ H b) : b < w.heap.size := by
  obtain ⟨o, l, ob, h1, h2, h3, rfl⟩ := h
  exact (hS.lt o l ob h1 h2 h3).2
theorem owned_base (hS : SimH G wb ρ H w) {b : Nat} (h : owned ρ H b) : wb.heap.size ≤ b := by
  obtain ⟨o, l, ob, h1, h2, h3, rfl⟩ := h
  exact (hS.lt o l ob h1 h2 h3).1

/-- the world has only new blocks or draws: nothing abstract has changed -/
theorem step_still (h1 : w'.os = w.os) (h2 : w'.tape = w.tape) (h3 : w'.output = w.output) (h4 : w.heap.size ≤ w'.heap.size) (h5 : ∀ b, b < w.heap.size → w'.heap[b]? = w.heap[b]?) :
    Step ρ H w ρ H w' :=
  { Step.refl ρ H w with os := h1, tape := h2, output := h3, size := h4, same := fun b hb _ => h5 b hb }
theorem sim_still (hS : SimH G wb ρ H w) (h1 : w'.os = w.os) (h2 : w'.tape = w.tape) (h3 : w'.output = w.output) (h4 : w.heap.size ≤ w'.heap.size) (h5 : ∀ b, b < w.heap.size → w'.heap[b]? = w.heap[b]?) :
    SimH G wb ρ H w' := by
  have hs : Step ρ H w ρ H w' := step_still h1 h2 h3 h4 h5
  refine ⟨hS.len, hS.base.trans ⟨h1, h2, h3, h4, fun k hk => h5 k (Nat.lt_of_lt_of_le hk hS.base.size)⟩, ?_, ?_, hS.inj, fun b hb => hS.gup b (by omega), hS.gown⟩
  · intro o l ob ho hob
    exact (hS.ok o l ob ho hob).move hs hS.len (fun hw => h5 _ (hS.lt o l ob ho hob hw).2)
  · intro o l ob ho hob hw
    have := hS.lt o l ob ho hob hw
    exact ⟨this.1, by omega⟩

theorem Turns.refl {ob : Ob} {l : Loc} (h : ob ≠ .gone) : Turns ob ob l l := by
  cases ob with
  | box cs => exact .inr ⟨⟨cs, rfl⟩, rfl⟩
  | vec g es els => exact .inr ⟨g, els, rfl, Nat.le_refl _, fun _ => ⟨rfl, rfl⟩⟩
  | map k es => exact .inr ⟨⟨es, rfl⟩, rfl⟩
  | gone => exact absurd rfl h
theorem Turns.refl' {ob : Ob} {l : Loc} : Turns ob ob l l := by
  by_cases h : ob = .gone
  · exact .inl h
  · exact .refl h

theorem getElem?_set_ne' {α : Type} (l : List α) {i j : Nat} (a : α) (h : i ≠ j) : (l.set i a)[j]? = l[j]? := by
  rw [List.getElem?_set_ne h]

theorem step_set (hS : SimH G wb ρ H w) {o : Nat} {l l' : Loc} {ob ob' : Ob} (ho : ρ[o]? = some l) (hob : H[o]? = some ob)
    (h1 : w'.os = w.os) (h2 : w'.tape = w.tape) (h3 : w'.output = w.output) (h4 : w.heap.size ≤ w'.heap.size)
    (h5 : ∀ b, b < w.heap.size → (ob.owns l → b ≠ l.blk) → w'.heap[b]? = w.heap[b]?) (ht : Turns ob ob' l l')
    (hw : ob'.owns l' → (l'.blk = l.blk ∧ ob.owns l) ∨ (w.heap.size ≤ l'.blk ∧ l'.blk < w'.heap.size)) :
    Step ρ H w (ρ.set o l') (H.set o ob') w' := by
  have hoH : o < H.length := by
    rcases Nat.lt_or_ge o H.length with h | h
    · exact h
    · rw [List.getElem?_eq_none h] at hob; cases hob
  have hoR : o < ρ.length := by have := hS.len; omega
  refine ⟨h1, h2, h3, h4, ?_, ?_, by simp, ?_⟩
  · intro b hb hn
    exact h5 b hb (fun hw e => hn ⟨o, l, ob, ho, hob, hw, e.symm⟩)
  · rintro b hb ⟨o1, l1, ob1, a1, a2, a3, rfl⟩
    by_cases e : o1 = o
    · subst e
      rw [List.getElem?_set_self hoR] at a1
      rw [List.getElem?_set_self hoH] at a2
      cases a1
      cases a2
      rcases hw a3 with ⟨e1, e2⟩ | ⟨e1, _⟩
      · exact ⟨o1, l, ob, ho, hob, e2, e1.symm⟩
      · omega
    · rw [List.getElem?_set_ne (Ne.symm e)] at a1 a2
      exact ⟨o1, l1, ob1, a1, a2, a3, rfl⟩
  · intro o1 l1 ob1 a1 a2
    by_cases e : o1 = o
    · subst e
      rw [ho] at a1
      rw [hob] at a2
      cases a1
      cases a2
      exact ⟨l', ob', by rw [List.getElem?_set_self hoR], by rw [List.getElem?_set_self hoH], ht⟩
    · exact ⟨l1, ob1, by rw [List.getElem?_set_ne (Ne.symm e)]; exact a1, by rw [List.getElem?_set_ne (Ne.symm e)]; exact a2, .refl'⟩

theorem sim_set (hS : SimH G wb ρ H w) {o : Nat} {l l' : Loc} {ob ob' : Ob} (ho : ρ[o]? = some l) (hob : H[o]? = some ob)
    (h1 : w'.os = w.os) (h2 : w'.tape = w.tape) (h3 : w'.output = w.output) (h4 : w.heap.size ≤ w'.heap.size)
    (h5 : ∀ b, b < w.heap.size → (ob.owns l → b ≠ l.blk) → w'.heap[b]? = w.heap[b]?) (ht : Turns ob ob' l l')
    (hw : ob'.owns l' → (l'.blk = l.blk ∧ ob.owns l) ∨ (w.heap.size ≤ l'.blk ∧ l'.blk < w'.heap.size))
    (hok : ObOk (ρ.set o l') (H.set o ob') (gd G (ρ.set o l') (H.set o ob')) w' l' ob') :
    SimH G wb (ρ.set o l') (H.set o ob') w' := by
  have hs := step_set hS ho hob h1 h2 h3 h4 h5 ht hw
  have hoH : o < H.length := by
    rcases Nat.lt_or_ge o H.length with h | h
    · exact h
    · rw [List.getElem?_eq_none h] at hob; cases hob
  have hoR : o < ρ.length := by have := hS.len; omega
  have hlt : ob'.owns l' → wb.heap.size ≤ l'.blk ∧ l'.blk < w'.heap.size := by
    intro a3
    rcases hw a3 with ⟨e1, e2⟩ | ⟨e1, e2⟩
    · have := hS.lt _ l ob ho hob e2
      rw [e1]
      exact ⟨this.1, by omega⟩
    · exact ⟨by have := hS.base.size; omega, e2⟩
  refine ⟨by simp [hS.len], ?_, ?_, ?_, ?_, fun b hb => hS.gup b (by omega), ?_⟩
  · refine hS.base.trans ⟨h1, h2, h3, h4, fun k hk => h5 k (Nat.lt_of_lt_of_le hk hS.base.size) (fun hw' e => ?_)⟩
    have := (hS.lt o l ob ho hob hw').1
    omega
  · intro o1 l1 ob1 a1 a2
    by_cases e : o1 = o
    · subst e
      rw [List.getElem?_set_self hoR] at a1
      rw [List.getElem?_set_self hoH] at a2
      cases a1
      cases a2
      exact hok
    · rw [List.getElem?_set_ne (Ne.symm e)] at a1 a2
      refine (hS.ok o1 l1 ob1 a1 a2).move hs hS.len (fun hw1 => h5 _ (hS.lt o1 l1 ob1 a1 a2 hw1).2 (fun hw2 e2 => e ?_))
      exact hS.inj o1 o l1 l ob1 ob a1 ho a2 hob hw1 hw2 e2
  · intro o1 l1 ob1 a1 a2 a3
    by_cases e : o1 = o
    · subst e
      rw [List.getElem?_set_self hoR] at a1
      rw [List.getElem?_set_self hoH] at a2
      cases a1
      cases a2
      exact hlt a3
    · rw [List.getElem?_set_ne (Ne.symm e)] at a1 a2
      have := hS.lt o1 l1 ob1 a1 a2 a3
      exact ⟨this.1, by omega⟩
  · have key : ∀ (o2 : Nat) (l2 : Loc) (ob2 : Ob), o2 ≠ o → ρ[o2]? = some l2 → H[o2]? = some ob2 → ob2.owns l2 → ob'.owns l' → l'.blk = l2.blk → False := by
      intro o2 l2 ob2 e b1 b2 b3 a3 heq
      rcases hw a3 with ⟨e1, e2⟩ | ⟨e1, e2⟩
      · exact e (hS.inj o2 o l2 l ob2 ob b1 ho b2 hob b3 e2 (by omega))
      · have := (hS.lt o2 l2 ob2 b1 b2 b3).2
        omega
    intro o1 o2 l1 l2 ob1 ob2 a1 b1 a2 b2 a3 b3 heq
    by_cases e : o1 = o
    · by_cases e' : o2 = o
      · omega
      · subst e
        rw [List.getElem?_set_self hoR] at a1
        rw [List.getElem?_set_self hoH] at a2
        rw [List.getElem?_set_ne (Ne.symm e')] at b1 b2
        cases a1
        cases a2
        exact (key o2 l2 ob2 e' b1 b2 b3 a3 heq).elim
    · by_cases e' : o2 = o
      · subst e'
        rw [List.getElem?_set_self hoR] at b1
        rw [List.getElem?_set_self hoH] at b2
        rw [List.getElem?_set_ne (Ne.symm e)] at a1 a2
        cases b1
        cases b2
        exact (key o1 l1 ob1 e a1 a2 a3 b3 heq.symm).elim
      · rw [List.getElem?_set_ne (Ne.symm e)] at a1 a2
        rw [List.getElem?_set_ne (Ne.symm e')] at b1 b2
        exact hS.inj o1 o2 l1 l2 ob1 ob2 a1 b1 a2 b2 a3 b3 heq
  · intro o1 l1 ob1 a1 a2 a3
    by_cases e : o1 = o
    · subst e
      rw [List.getElem?_set_self hoR] at a1
      rw [List.getElem?_set_self hoH] at a2
      cases a1
      cases a2
      rcases hw a3 with ⟨e1, e2⟩ | ⟨e1, _⟩
      · rw [e1]; exact hS.gown _ l ob ho hob e2
      · exact hS.gup _ e1
    · rw [List.getElem?_set_ne (Ne.symm e)] at a1 a2
      exact hS.gown o1 l1 ob1 a1 a2 a3

theorem getElem?_snoc {α : Type} (l : List α) (x : α) (i : Nat) : (l ++ [x])[i]? = if i < l.length then l[i]? else if i = l.length then some x else none := by
  by_cases h : i < l.length
  · rw [if_pos h, List.getElem?_append_left h]
  · rw [if_neg h]
    by_cases e : i = l.length
    · rw [if_pos e]; subst e; simp
    · rw [if_neg e, List.getElem?_eq_none (by simp; omega)]

theorem step_push (hS : SimH G wb ρ H w) (l : Loc) (ob : Ob)
    (h1 : w'.os = w.os) (h2 : w'.tape = w.tape) (h3 : w'.output = w.output) (h4 : w.heap.size ≤ w'.heap.size)
    (h5 : ∀ b, b < w.heap.size → w'.heap[b]? = w.heap[b]?) (hw : ob.owns l → w.heap.size ≤ l.blk ∧ l.blk < w'.heap.size) :
    Step ρ H w (ρ ++ [l]) (H ++ [ob]) w' := by
  refine ⟨h1, h2, h3, h4, fun b hb _ => h5 b hb, ?_, by simp, ?_⟩
  · rintro b hb ⟨o1, l1, ob1, a1, a2, a3, rfl⟩
    rw [getElem?_snoc] at a1 a2
    rw [hS.len] at a1
    by_cases e : o1 < H.length
    · rw [if_pos e] at a1 a2
      exact ⟨o1, l1, ob1, a1, a2, a3, rfl⟩
    · rw [if_neg e] at a1 a2
      by_cases e' : o1 = H.length
      · rw [if_pos e'] at a1 a2
        cases a1
        cases a2
        have := (hw a3).1
        omega
      · rw [if_neg e'] at a1
        cases a1
  · intro o1 l1 ob1 a1 a2
    have e : o1 < H.length := by
      rcases Nat.lt_or_ge o1 H.length with h | h
      · exact h
      · rw [List.getElem?_eq_none h] at a2; cases a2
    exact ⟨l1, ob1, by rw [getElem?_snoc, if_pos (by rw [hS.len]; exact e)]; exact a1, by rw [getElem?_snoc, if_pos e]; exact a2, .refl'⟩

theorem sim_push (hS : SimH G wb ρ H w) (l : Loc) (ob : Ob)
    (h1 : w'.os = w.os) (h2 : w'.tape = w.tape) (h3 : w'.output = w.output) (h4 : w.heap.size ≤ w'.heap.size)
    (h5 : ∀ b, b < w.heap.size → w'.heap[b]? = w.heap[b]?) (hw : ob.owns l → w.heap.size ≤ l.blk ∧ l.blk < w'.heap.size)
    (hok : ObOk (ρ ++ [l]) (H ++ [ob]) (gd G (ρ ++ [l]) (H ++ [ob])) w' l ob) :
    SimH G wb (ρ ++ [l]) (H ++ [ob]) w' := by
  have hs := step_push hS l ob h1 h2 h3 h4 h5 hw
  have split : ∀ (o1 : Nat) (l1 : Loc) (ob1 : Ob), (ρ ++ [l])[o1]? = some l1 → (H ++ [ob])[o1]? = some ob1 → (o1 < H.length ∧ ρ[o1]? = some l1 ∧ H[o1]? = some ob1) ∨ (o1 = H.length ∧ l1 = l ∧ ob1 = ob) := by
    intro o1 l1 ob1 a1 a2
    rw [getElem?_snoc] at a1 a2
    rw [hS.len] at a1
    by_cases e : o1 < H.length
    · rw [if_pos e] at a1 a2
      exact .inl ⟨e, a1, a2⟩
    · rw [if_neg e] at a1 a2
      by_cases e' : o1 = H.length
      · rw [if_pos e'] at a1 a2
        cases a1
        cases a2
        exact .inr ⟨e', rfl, rfl⟩
      · rw [if_neg e'] at a1
        cases a1
  refine ⟨by simp [hS.len], hS.base.trans ⟨h1, h2, h3, h4, fun k hk => h5 k (Nat.lt_of_lt_of_le hk hS.base.size)⟩, ?_, ?_, ?_, fun b hb => hS.gup b (by omega), ?_⟩
  · intro o1 l1 ob1 a1 a2
    rcases split o1 l1 ob1 a1 a2 with ⟨_, a1, a2⟩ | ⟨_, rfl, rfl⟩
    · exact (hS.ok o1 l1 ob1 a1 a2).move hs hS.len (fun hw1 => h5 _ (hS.lt o1 l1 ob1 a1 a2 hw1).2)
    · exact hok
  · intro o1 l1 ob1 a1 a2 a3
    rcases split o1 l1 ob1 a1 a2 with ⟨_, a1, a2⟩ | ⟨_, rfl, rfl⟩
    · have := hS.lt o1 l1 ob1 a1 a2 a3
      exact ⟨this.1, by omega⟩
    · have := hw a3
      exact ⟨by have := hS.base.size; omega, this.2⟩
  · intro o1 o2 l1 l2 ob1 ob2 a1 b1 a2 b2 a3 b3 heq
    rcases split o1 l1 ob1 a1 a2 with ⟨e1, c1, c2⟩ | ⟨e1, hl1, ho1⟩
    · rcases split o2 l2 ob2 b1 b2 with ⟨e2, d1, d2⟩ | ⟨e2, hl2, ho2⟩
      · exact hS.inj o1 o2 l1 l2 ob1 ob2 c1 d1 c2 d2 a3 b3 heq
      · have := (hS.lt o1 l1 ob1 c1 c2 a3).2
        rw [hl2, ho2] at b3
        have := (hw b3).1
        rw [hl2] at heq
        omega
    · rcases split o2 l2 ob2 b1 b2 with ⟨e2, d1, d2⟩ | ⟨e2, hl2, ho2⟩
      · have := (hS.lt o2 l2 ob2 d1 d2 b3).2
        rw [hl1, ho1] at a3
        have := (hw a3).1
        rw [hl1] at heq
        omega
      · omega
  · intro o1 l1 ob1 a1 a2 a3
    rcases split o1 l1 ob1 a1 a2 with ⟨_, c1, c2⟩ | ⟨_, hl1, ho1⟩
    · exact hS.gown o1 l1 ob1 c1 c2 a3
    · rw [hl1, ho1] at a3
      rw [hl1]
      exact hS.gup _ (hw a3).1
end
end Go.DL
