/- The abstract machine, second part: stores, appends, code triples, regions that draw their order, contracts of functions. -/
import Derived.Test.YtgoajlgkbcongaaMaA
import Derived.Tactics
import Derived.Deep.LoopGhost
import Derived.Orders
import Derived.Laws.StructEq
section
set_option linter.unusedVariables false
set_option linter.unusedSimpArgs false
namespace Go.Proofs.Ytgoajlgkbcongaa.Vm
open Go Go.RowKit
theorem kid_setKid {v : AV} {s : Nat × Nat} {c : AV} (h : v.kid s = some c) (u : AV) : (v.setKid s u).kid s = some u := by
  obtain ⟨j, k⟩ := s
  cases v with
  | own id sz rows => simp only [AV.kid, AV.setKid] at h ⊢; rw [cell_set (by rw [h]; rfl)]; simp
  | box id cells => simp only [AV.kid, AV.setKid] at h ⊢; rw [getElem?_set_some h]; simp
  | agg vs => simp only [AV.kid, AV.setKid] at h ⊢; rw [getElem?_set_some h]; simp
  | tup vs => simp only [AV.kid, AV.setKid] at h ⊢; rw [getElem?_set_some h]; simp
  | clo f vs => simp only [AV.kid, AV.setKid] at h ⊢; rw [getElem?_set_some h]; simp
  | _ => simp [AV.kid] at h
theorem getP_putP : ∀ (p : List (Nat × Nat)) {v c : AV} (h : getP p v = some c) (u : AV), getP p (putP p u v) = some u
  | [], v, c, h, u => rfl
  | s :: p, v, c, h, u => by
    simp only [getP] at h
    cases hm : v.kid s with
    | none => simp [hm] at h
    | some m =>
      simp only [hm, Option.bind_some] at h
      simp only [putP, hm, getP, kid_setKid hm, Option.bind_some]
      exact getP_putP p h u
theorem Fr.get_put {fr : Fr} {p : Pl} {c : AV} (h : fr.get p = some c) (u : AV) : (fr.put p u).get p = some u := by
  unfold Fr.get Fr.put at *
  rw [Fr.s_upd, if_pos rfl]
  exact getP_putP p.2 h u
def AV.isMem : AV → Bool
  | .own .. => true
  | .box .. => true
  | _ => false
def AV.off : AV → Nat → Nat → Nat
  | .own _ sz _, j, k => j * sz + k
  | _, _, k => k
def AV.hid : AV → Nat
  | .own id _ _ => id
  | .box id _ => id
  | _ => 0
def Cx.wr (C : Cx) (b i : Nat) (cv : Value) : Cx := { C with w := C.w.setCell ⟨b, i, none⟩ cv }
section
variable {P : Program} {K : Base} {o : Oper} {fr fr' : Fr}
theorem heap_setCell_at {w : World} {b i e : Nat} {cur : Array Value} (h : w.heap[b]? = some (.cells cur e (0, 0))) (cv : Value) : (w.setCell ⟨b, i, none⟩ cv).heap[b]? = some (.cells (cur.setIfInBounds i cv) e (0, 0)) := by
  rw [setCell_eq_setRow w b i cur e (0, 0) cv h]
  exact setRow_heap w b cur _ e (0, 0) h
theorem setCell_size (w : World) (a : Addr) (cv : Value) : (w.setCell a cv).heap.size = w.heap.size := by simp [World.setCell]
theorem Compat.wr {C : Cx} {b : Nat} (i : Nat) (cv : Value) (hb : C.D b) {F : FP} (hF : ∀ x, F x → x ≠ b) : Compat C (C.wr b i cv) F :=
  ⟨Nat.le_refl _, fun _ _ => rfl, fun x hx => Below.heap_setCell _ _ _ _ (hF x hx), fun x hx hD => ⟨Below.heap_setCell _ _ _ _ (fun e => hD (e ▸ hb)), hD⟩⟩
/-- A cell of what lies in memory is written. -/
theorem VR.write {C : Cx} {c u v : AV} {cc cv : Value} {Fc Fv : FP} {j k : Nat} (h : VR C c cc Fc) (hm : c.isMem = true) (hk : c.kid (j, k) = some u) (hv : VR C v cv Fv) (hone : cv.oneCell' = true) (hdis : ∀ x, Fv x → ¬ Fc x) (hD : ∀ x, Fc x → C.D x) :
    ∃ (b e : Nat) (cur : Array Value) (Fu : FP), blockOf cc = some b ∧ cc = C.η c.hid ∧ C.w.heap[b]? = some (.cells cur e (0, 0)) ∧ c.off j k < cur.size ∧ Fc b ∧ (∀ x, Fu x → Fc x) ∧ VR (C.wr b (c.off j k) cv) (c.setKid (j, k) v) cc (fun x => (Fc x ∧ ¬ Fu x) ∨ Fv x) := by
  cases h with
  | own id sz rows b n cap e cur cvs Fcc F hid hη hn hsz hcap hmax hb hcur hone' hcell hvv hF hdis' hself =>
    have hk' : cell rows j k = some u := hk
    have hs0 : (cell rows j k).isSome := by rw [hk']; rfl
    have hlt : j * sz + k < cur.size := (Array.getElem?_eq_some_iff.1 (hcell j k u hk')).1
    have hbF : Fc b := (hF b).2 (.inl rfl)
    have hnb : ∀ x, Fv x → x ≠ b := fun x hx e => hdis x hx (e ▸ hbF)
    have hksz : ∀ j' k' u', cell rows j' k' = some u' → k' < sz := by
      intro j' k' u' h
      unfold cell at h
      cases hr : rows[j']? with
      | none => simp [hr] at h
      | some row =>
        simp only [hr, Option.bind_some] at h
        rw [← hsz row (List.mem_of_getElem? hr)]
        exact (List.getElem?_eq_some_iff.1 h).1
    refine ⟨b, e, cur, Fcc j k, rfl, hη.symm, hb, hlt, hbF, fun x hx => (hF x).2 (.inr ⟨j, k, hs0, hx⟩), ?_⟩
    refine .own id sz _ b n cap e (cur.setIfInBounds (j * sz + k) cv) (fun j' k' => if j' = j ∧ k' = k then cv else cvs j' k') (fun j' k' => if j' = j ∧ k' = k then Fv else Fcc j' k') _ hid hη (by rw [setCell_length]; exact hn) (setCell_rows hsz _ _ _) hcap hmax
      (heap_setCell_at hb cv) (by simp [hcur]) (fun i q hq => ?_) (fun j' k' q hq => ?_) (fun j' k' q hq => ?_) (fun x => ?_) (fun j' k' j'' k'' x h1 h2 h3 h4 => ?_) (fun j' k' h1 => ?_)
    · rw [Array.getElem?_setIfInBounds] at hq
      split at hq
      · cases hq; exact hone
      · exact hone' _ _ hq
    · rw [cell_set hs0] at hq
      by_cases e1 : j' = j ∧ k' = k
      · obtain ⟨rfl, rfl⟩ := e1
        simp [hlt]
      · rw [if_neg e1] at hq
        simp only [if_neg e1]
        rw [Array.getElem?_setIfInBounds, if_neg (fun e2 => e1 (idx_inj (hksz _ _ _ hq) (hksz _ _ _ hk') e2.symm))]
        exact hcell j' k' q hq
    · rw [cell_set hs0] at hq
      by_cases e1 : j' = j ∧ k' = k
      · rw [if_pos e1] at hq
        simp only [if_pos e1]
        cases hq
        exact hv.mono (Compat.wr _ _ (hD b hbF) hnb)
      · rw [if_neg e1] at hq
        simp only [if_neg e1]
        exact (hvv j' k' q hq).mono (Compat.wr _ _ (hD b hbF) fun x hx e2 => hself j' k' (by rw [hq]; rfl) (e2 ▸ hx))
    · constructor
      · rintro (⟨hx, hn0⟩ | hx)
        · rcases (hF x).1 hx with rfl | ⟨j', k', h1, h2⟩
          · exact .inl rfl
          · have e1 : ¬ (j' = j ∧ k' = k) := fun e1 => hn0 (by rw [← e1.1, ← e1.2]; exact h2)
            exact .inr ⟨j', k', by rw [cell_set hs0, if_neg e1]; exact h1, by simpa only [if_neg e1] using h2⟩
        · exact .inr ⟨j, k, by rw [cell_set hs0]; simp, by simpa using hx⟩
      · rintro (rfl | ⟨j', k', h1, h2⟩)
        · exact .inl ⟨hbF, hself j k hs0⟩
        · rw [cell_set hs0] at h1
          by_cases e1 : j' = j ∧ k' = k
          · simp only [if_pos e1] at h2; exact .inr h2
          · simp only [if_neg e1] at h1 h2
            exact .inl ⟨(hF x).2 (.inr ⟨j', k', h1, h2⟩), fun hx0 => e1 (hdis' j' k' j k x h1 hs0 h2 hx0)⟩
    · rw [cell_set hs0] at h1 h2
      by_cases e1 : j' = j ∧ k' = k <;> by_cases e2 : j'' = j ∧ k'' = k
      · exact ⟨e1.1.trans e2.1.symm, e1.2.trans e2.2.symm⟩
      · simp only [if_pos e1, if_neg e2] at h1 h2 h3 h4
        exact absurd ((hF x).2 (.inr ⟨j'', k'', h2, h4⟩)) (hdis x h3)
      · simp only [if_neg e1, if_pos e2] at h1 h2 h3 h4
        exact absurd ((hF x).2 (.inr ⟨j', k', h1, h3⟩)) (hdis x h4)
      · simp only [if_neg e1, if_neg e2] at h1 h2 h3 h4
        exact hdis' j' k' j'' k'' x h1 h2 h3 h4
    · rw [cell_set hs0] at h1
      by_cases e1 : j' = j ∧ k' = k
      · simp only [if_pos e1]; exact fun hx => hdis b hx hbF
      · simp only [if_neg e1] at h1 ⊢; exact hself j' k' h1
  | box id cells b e cur cvs Fcc F hid hη hb hcur hone' hcell hvv hF hdis' hself =>
    have hk' : cells[k]? = some u := hk
    have hs0 : (cells[k]?).isSome := by rw [hk']; rfl
    have hlt : k < cur.size := (Array.getElem?_eq_some_iff.1 (hcell k u hk')).1
    have hbF : Fc b := (hF b).2 (.inl rfl)
    have hnb : ∀ x, Fv x → x ≠ b := fun x hx e => hdis x hx (e ▸ hbF)
    refine ⟨b, e, cur, Fcc k, rfl, hη.symm, hb, hlt, hbF, fun x hx => (hF x).2 (.inr ⟨k, hs0, hx⟩), ?_⟩
    refine .box id _ b e (cur.setIfInBounds k cv) (fun k' => if k' = k then cv else cvs k') (fun k' => if k' = k then Fv else Fcc k') _ hid hη
      (heap_setCell_at hb cv) (by simp [hcur]) (fun i q hq => ?_) (fun k' q hq => ?_) (fun k' q hq => ?_) (fun x => ?_) (fun k' k'' x h1 h2 h3 h4 => ?_) (fun k' h1 => ?_)
    · rw [Array.getElem?_setIfInBounds] at hq
      split at hq
      · cases hq; exact hone
      · exact hone' _ _ hq
    · rw [getElem?_set_some hk'] at hq
      by_cases e1 : k' = k
      · subst e1
        simp [hlt]
      · rw [if_neg e1] at hq
        simp only [if_neg e1]
        rw [Array.getElem?_setIfInBounds, if_neg (fun e2 => e1 e2.symm)]
        exact hcell k' q hq
    · rw [getElem?_set_some hk'] at hq
      by_cases e1 : k' = k
      · rw [if_pos e1] at hq
        simp only [if_pos e1]
        cases hq
        exact hv.mono (Compat.wr _ _ (hD b hbF) hnb)
      · rw [if_neg e1] at hq
        simp only [if_neg e1]
        exact (hvv k' q hq).mono (Compat.wr _ _ (hD b hbF) fun x hx e2 => hself k' (by rw [hq]; rfl) (e2 ▸ hx))
    · constructor
      · rintro (⟨hx, hn0⟩ | hx)
        · rcases (hF x).1 hx with rfl | ⟨k', h1, h2⟩
          · exact .inl rfl
          · have e1 : k' ≠ k := fun e1 => hn0 (by rw [← e1]; exact h2)
            exact .inr ⟨k', by rw [getElem?_set_some hk', if_neg e1]; exact h1, by simpa only [if_neg e1] using h2⟩
        · exact .inr ⟨k, by rw [getElem?_set_some hk']; simp, by simpa using hx⟩
      · rintro (rfl | ⟨k', h1, h2⟩)
        · exact .inl ⟨hbF, hself k hs0⟩
        · rw [getElem?_set_some hk'] at h1
          by_cases e1 : k' = k
          · simp only [if_pos e1] at h2; exact .inr h2
          · simp only [if_neg e1] at h1 h2
            exact .inl ⟨(hF x).2 (.inr ⟨k', h1, h2⟩), fun hx0 => e1 (hdis' k' k x h1 hs0 h2 hx0)⟩
    · rw [getElem?_set_some hk'] at h1 h2
      by_cases e1 : k' = k <;> by_cases e2 : k'' = k
      · exact e1.trans e2.symm
      · simp only [if_pos e1, if_neg e2] at h1 h2 h3 h4
        exact absurd ((hF x).2 (.inr ⟨k'', h2, h4⟩)) (hdis x h3)
      · simp only [if_neg e1, if_pos e2] at h1 h2 h3 h4
        exact absurd ((hF x).2 (.inr ⟨k', h1, h3⟩)) (hdis x h4)
      · simp only [if_neg e1, if_neg e2] at h1 h2 h3 h4
        exact hdis' k' k'' x h1 h2 h3 h4
    · rw [getElem?_set_some hk'] at h1
      by_cases e1 : k' = k
      · simp only [if_pos e1]; exact fun hx => hdis b hx hbF
      · simp only [if_neg e1] at h1 ⊢; exact hself k' h1
  | ownNil => simp [AV.kid, cell] at hk
  | lit v cv h => cases h <;> simp [AV.isMem] at hm
  | _ => simp [AV.isMem] at hm
theorem Rel.write {C : Cx} {tm : Nat → Value} {F : Nat → FP} (h : Rel C fr tm F) {p : Pl} {c u v : AV} {cv : Value} {Fv : FP} {j k : Nat} (hg : fr.get p = some c) (hm : c.isMem = true) (hk : c.kid (j, k) = some u) (hv : VR C v cv Fv) (hone : cv.oneCell' = true)
    (hdis : ∀ x, Fv x → ∀ t, ¬ F t x) (hD : ∀ x, Fv x → C.D x) :
    ∃ (b e : Nat) (cur : Array Value) (F' : Nat → FP), blockOf (C.η c.hid) = some b ∧ C.w.heap[b]? = some (.cells cur e (0, 0)) ∧ c.off j k < cur.size ∧ F p.1 b ∧ Rel (C.wr b (c.off j k) cv) (fr.put p (c.setKid (j, k) v)) tm F' ∧ (∀ t x, F' t x → F t x ∨ Fv x) := by
  obtain ⟨cc, Fc, hvc, hs, hput⟩ := h.lens hg
  obtain ⟨b, e, cur, Fu, h1, h2, h3, h4, h5, h6, h7⟩ := hvc.write hm hk hv hone (fun x hx hc => hdis x hx p.1 (hs x hc)) (fun x hx => h.sub _ x (hs x hx))
  refine ⟨b, e, cur, _, by rw [← h2]; exact h1, h3, h4, hs b h5, hput _ _ _ h7 (Compat.wr _ _ (h.sub _ b (hs b h5)) fun x hx e1 => hx.2 (e1 ▸ h5)) (fun x hx t ht => ?_) (fun x hx => ?_) (fun x hx _ => hx), fun t x hx => ?_⟩
  · rcases hx with hx | hx
    · exact ht.2 hx.1
    · exact hdis x hx t ht.1
  · rcases hx with hx | hx
    · exact h.sub _ x (hs x hx.1)
    · exact hD x hx
  · by_cases e1 : t = p.1
    · simp only [if_pos e1] at hx
      subst e1
      rcases hx with hx | hx | hx
      · exact .inl hx.1
      · exact .inl (hs x hx.1)
      · exact .inr hx
    · simp only [if_neg e1] at hx; exact .inl hx
def Fr.stN (p : Pl) (j : Nat) : Fr → Nat → List AV → Option Fr
  | fr, _, [] => some fr
  | fr, k, v :: vs => match fr.get p with
    | some c => if c.isMem then (match c.kid (j, k) with
      | some _ => Fr.stN p j (fr.put p (c.setKid (j, k) v)) (k + 1) vs
      | none => none) else none
    | none => none
/-- What a store leaves as it was. -/
structure Wrote (C C' : Cx) (b : Nat) : Prop where
  D : C'.D = C.D
  η : C'.η = C.η
  g : C'.g = C.g
  size : C'.w.heap.size = C.w.heap.size
  heap : ∀ x, x ≠ b → C'.w.heap[x]? = C.w.heap[x]?
  os : C'.w.os = C.w.os
  tape : C'.w.tape = C.w.tape
  output : C'.w.output = C.w.output
theorem Wrote.trans {C C1 C2 : Cx} {b : Nat} (h : Wrote C C1 b) (k : Wrote C1 C2 b) : Wrote C C2 b :=
  ⟨k.D.trans h.D, k.η.trans h.η, k.g.trans h.g, k.size.trans h.size, fun x hx => (k.heap x hx).trans (h.heap x hx), k.os.trans h.os, k.tape.trans h.tape, k.output.trans h.output⟩
theorem Wrote.wr (C : Cx) (b i : Nat) (cv : Value) : Wrote C (C.wr b i cv) b := ⟨rfl, rfl, rfl, setCell_size _ _ _, fun x hx => Below.heap_setCell _ _ _ _ hx, rfl, rfl, rfl⟩
theorem Wrote.compat {C C' : Cx} {b : Nat} (h : Wrote C C' b) (hb : C.D b) {F : FP} (hF : ∀ x, F x → x ≠ b) : Compat C C' F :=
  ⟨by rw [h.g]; exact Nat.le_refl _, fun id _ => by rw [h.η], fun x hx => h.heap x (hF x hx), fun x _ hD => ⟨h.heap x (fun e => hD (e ▸ hb)), by rw [h.D]; exact hD⟩⟩
theorem setKid_off {c u : AV} {s : Nat × Nat} (v : AV) (h : c.kid s = some u) (j k : Nat) : (c.setKid s v).off j k = c.off j k := by cases c <;> first | rfl | (obtain ⟨_, _⟩ := s; rfl)
theorem setKid_mem {c : AV} {s : Nat × Nat} (v : AV) : (c.setKid s v).isMem = c.isMem := by cases c <;> first | rfl | (obtain ⟨_, _⟩ := s; rfl)
theorem setKid_hid {c : AV} {s : Nat × Nat} (v : AV) : (c.setKid s v).hid = c.hid := by cases c <;> first | rfl | (obtain ⟨_, _⟩ := s; rfl)
theorem off_succ (c : AV) (j k : Nat) : c.off j (k + 1) = c.off j k + 1 := by cases c <;> first | rfl | (simp only [AV.off]; omega)
theorem stN_sound {b o0 j : Nat} {p : Pl} : ∀ (vs : List AV) (cvs : List Value) (k i : Nat) {fr fr' : Fr} {C : Cx} {tm : Nat → Value} {F : Nat → FP} {Fp : Nat → FP} {c : AV} (h : Rel C fr tm F) (hg : fr.get p = some c) (hb : blockOf (C.η c.hid) = some b) (ho : o0 + i = c.off j k)
    (hl : cvs.length = vs.length) (hv : ∀ (q : Nat) (v : AV) (cv : Value), vs[q]? = some v → cvs[q]? = some cv → VR C v cv (Fp q) ∧ cv.oneCell' = true) (hd : ∀ q x, (vs[q]?).isSome → Fp q x → ∀ t, ¬ F t x) (hdd : ∀ q q' x, (vs[q]?).isSome → (vs[q']?).isSome → Fp q x → Fp q' x → q = q') (hD : ∀ q x, (vs[q]?).isSome → Fp q x → C.D x)
    (hs : fr.stN p j k vs = some fr'), ∃ C' F', (storeCells ⟨b, o0, none⟩ cvs i).run P C.w = .ok () C'.w ∧ Rel C' fr' tm F' ∧ Wrote C C' b ∧ (∀ t x, F' t x → F t x ∨ ∃ q, (vs[q]?).isSome ∧ Fp q x) ∧ fr'.g = fr.g ∧ fr'.n = fr.n ∧ (vs ≠ [] → F p.1 b)
  | [], cvs, k, i, fr, fr', C, tm, F, Fp, c, h, hg, hb, ho, hl, hv, hd, hdd, hD, hs => by
    simp only [Fr.stN, Option.some.injEq] at hs
    subst hs
    have : cvs = [] := List.eq_nil_of_length_eq_zero hl
    subst this
    exact ⟨C, F, rfl, h, ⟨rfl, rfl, rfl, rfl, fun _ _ => rfl, rfl, rfl, rfl⟩, fun t x hx => .inl hx, rfl, rfl, fun h => absurd rfl h⟩
  | v :: vs, [], k, i, fr, fr', C, tm, F, Fp, c, h, hg, hb, ho, hl, hv, hd, hdd, hD, hs => by simp at hl
  | v :: vs, cv :: cvs, k, i, fr, fr', C, tm, F, Fp, c, h, hg, hb, ho, hl, hv, hd, hdd, hD, hs => by
    simp only [Fr.stN, hg] at hs
    split at hs
    · rename_i hm
      cases hk : c.kid (j, k) with
      | none => simp [hk] at hs
      | some u =>
        simp only [hk] at hs
        obtain ⟨hv0, hone0⟩ := hv 0 v cv rfl rfl
        obtain ⟨b', e, cur, F1, w1, w2, w3, w4, w5, w6⟩ := h.write hg hm hk hv0 hone0 (fun x hx t => hd 0 x rfl hx t) (fun x hx => hD 0 x rfl hx)
        rw [hb] at w1
        cases w1
        have hbD : C.D b := h.sub _ b w4
        have hnb : ∀ q x, (vs[q]?).isSome → Fp (q + 1) x → x ≠ b := fun q x hq hx e => hd (q + 1) x (by simpa using hq) hx p.1 (e ▸ w4)
        obtain ⟨C', F', r1, r2, r3, r4, r5, r6, r7⟩ := stN_sound (b := b) (o0 := o0) (j := j) (p := p) vs cvs (k + 1) (i + 1) (Fp := fun q => Fp (q + 1)) (c := c.setKid (j, k) v) w5 (Fr.get_put hg _) (by rw [setKid_hid]; exact hb) (by rw [setKid_off v hk, off_succ]; omega) (by simpa using hl)
          (fun q v' cv' h1 h2 => by
            obtain ⟨a1, a2⟩ := hv (q + 1) v' cv' (by simpa using h1) (by simpa using h2)
            exact ⟨a1.mono (Compat.wr _ _ hbD fun x hx => hnb q x (by rw [h1]; rfl) hx), a2⟩)
          (fun q x h1 h2 t ht => by
            rcases w6 t x ht with h3 | h3
            · exact hd (q + 1) x (by simpa using h1) h2 t h3
            · have := hdd (q + 1) 0 x (by simpa using h1) rfl h2 h3; omega)
          (fun q q' x h1 h2 h3 h4 => by have := hdd (q + 1) (q' + 1) x (by simpa using h1) (by simpa using h2) h3 h4; omega)
          (fun q x h1 h2 => hD (q + 1) x (by simpa using h1) h2) hs
        refine ⟨C', F', ?_, r2, (Wrote.wr C b _ cv).trans r3, fun t x hx => ?_, r5, r6, fun _ => w4⟩
        · have hcell : C.w.cell? ⟨b, c.off j k, none⟩ = some (cur[c.off j k]'w3) := by rw [cell_of_cells w2]; exact Array.getElem?_eq_getElem w3
          have hfro : C.w.frozen? ⟨b, c.off j k, none⟩ = false := by simp [World.frozen?, w2]
          have hst : (store ((⟨b, o0, none⟩ : Addr).add i) cv).run P C.w = .ok () (C.w.setCell ⟨b, c.off j k, none⟩ cv) := by
            rw [Addr.add_lit, ho, run_store P C.w _ cv _ hone0, hcell]
            simp [hfro]
          simp only [storeCells, Sem.run_bind, hst, Result.andThen_ok]
          exact r1
        · rcases r4 t x hx with h1 | ⟨q, h1, h2⟩
          · rcases w6 t x h1 with h2 | h2
            · exact .inl h2
            · exact .inr ⟨0, rfl, h2⟩
          · exact .inr ⟨q + 1, by simpa using h1, h2⟩
    · cases hs
/-- A store; what is stored has been moved out of its place first. -/
def xStore (P : Program) (fr1 : Fr) (x : AV) (vs : List AV) : Option Fr :=
  match x with
  | .adr p id sz j k => match fr1.get p with
    | some (.own id' sz' rows) => if id' = id ∧ sz' = sz then fr1.stN p j k vs else none
    | some (.box id' cells) => if id' = id ∧ j = 0 then fr1.stN p 0 k vs else none
    | _ => none
  | _ => none
theorem OpS.store {t : TypeId} {x y : Operand} {v : AV} {fr1 fr2 : Fr} (ho : o.op = .store t x y) (hm : fr.mat1 (fr.ev y) = some (v, fr1)) (hsol : v.solid = true) (hsz : (P.info? t).map (·.size) = some v.cellsL.length) (hst : xStore P fr1 (fr.ev x) v.cellsL = some fr2) (hd : fr2.dst o.dst .undef = some fr') : OpS P K o fr fr' := by
  rintro a w ⟨C, F, hs⟩ next Q hnx
  obtain ⟨F1, Fv, hv, hmv⟩ := hs.rel.mat1 (hs.ev y) hm
  obtain ⟨Fc, h1, h2, h3, h4, h5⟩ := hv.cells hsol (Moved.noBor hm)
  have hx := hs.ev x
  have hw := hs.hw
  subst hw
  generalize fr.ev x = u at hx hst
  generalize hcx : a.eval x = cx at hx
  unfold xStore at hst
  split at hst
  · rename_i p id sz j k
    obtain ⟨b, rfl, hb, hid⟩ := hx.adrHdr
    have main : ∀ c, fr1.get p = some c → c.hid = id → c.off j k = j * sz + k → fr1.stN p j k v.cellsL = some fr2 → o.wp P a C.w next Q := by
      intro c hg hci hco hst
      obtain ⟨inf, hinf, hsz'⟩ := Option.map_eq_some_iff.1 hsz
      obtain ⟨C', F', r1, r2, r3, r4, r5, r6, r7⟩ := stN_sound (P := P) (b := b) (o0 := j * sz + k) (j := j) (p := p) v.cellsL (a.eval y).cells.toList k 0 (Fp := Fc) hmv.rel hg (by rw [hci]; exact hb) (by rw [hco]; omega) (by simpa using h1)
        (fun q u cu e1 e2 => ⟨h2 q u cu e1 (by simpa using e2), h5 q cu (by simpa using e2)⟩) (fun q x e1 e2 t ht => hmv.dis t x ht ((h3 x).2 ⟨q, e1, e2⟩)) h4 (fun q x e1 e2 => let ⟨t, ht⟩ := hmv.own x ((h3 x).2 ⟨q, e1, e2⟩); hs.rel.sub t x ht) hst
      have hFF : ∀ t x, F' t x → ∃ t', F t' x := fun t x hx => (r4 t x hx).elim (fun h => ⟨t, hmv.sub t x h⟩) (fun ⟨q, e1, e2⟩ => hmv.own x ((h3 x).2 ⟨q, e1, e2⟩))
      refine wp_skipv (w' := C'.w) ?_ (hnx _ _ ?_)
      · simp only [execOp, ho, hcx, Instr.storeAt, Instr.sureAddr]
        simp [storeVar, sizeOf, typeInfo, hinf, hsz', h1, r1]
      · refine StC.put (F' := F') (Fv := fun _ => False) (C' := C') ⟨by rw [r3.g]; exact hs.eta.1, fun id hid => by rw [r3.η]; exact hs.eta.2 id hid⟩ rfl (by rw [r3.g, hs.hg, r5, hmv.g]) r2 (.lit _ _ (.undef _)) (fun _ _ _ h => h) (fun _ h => h.elim) (fun x hx => by rw [r3.size]; exact hs.lt x (by rw [← r3.D]; exact hx)) (fun t x hx => let ⟨t', h⟩ := hFF t x hx; hs.new t' x h) (fun _ h => h.elim)
          (fun x hx => ⟨by rw [r3.D]; exact (hs.avoid x hx).1, fun t h => let ⟨t', h'⟩ := hFF t x h; (hs.avoid x hx).2 t' h', fun h => h⟩) ⟨r3.os.trans hs.fram.os, r3.tape.trans hs.fram.tape, r3.output.trans hs.fram.output, by rw [r3.size]; exact hs.fram.size, fun x hx hD0 => ?_⟩ hs.defers (by rw [r6, hmv.n]; exact hs.size) hd
        rw [← hs.fram.block x hx hD0]
        by_cases hb0 : x = b
        · by_cases hne : v.cellsL = []
          · have hz : (a.eval y).cells.toList = [] := List.eq_nil_of_length_eq_zero (by rw [Array.length_toList, h1, hne]; rfl)
            rw [hz] at r1
            simp only [storeCells] at r1
            injection r1 with _ r1
            rw [← r1]
          · have := r7 hne
            rcases hs.new _ _ (hmv.sub _ _ this) with h | h
            · exact absurd (hb0 ▸ h) hD0
            · omega
        · exact r3.heap x hb0
    cases hg : fr1.get p with
    | none => simp [hg] at hst
    | some c =>
      cases c with
      | own id' sz' rows =>
        simp only [hg] at hst
        split at hst
        · rename_i e
          obtain ⟨rfl, rfl⟩ := e
          exact main _ hg rfl rfl hst
        · cases hst
      | box id' cells =>
        simp only [hg] at hst
        split at hst
        · rename_i e
          obtain ⟨rfl, rfl⟩ := e
          exact main _ hg rfl (by simp [AV.off]) hst
        · cases hst
      | _ => simp [hg] at hst
  · cases hst
end
end Go.Proofs.Ytgoajlgkbcongaa.Vm
end
section
set_option linter.unusedVariables false
set_option linter.unusedSimpArgs false
namespace Go.Proofs.Ytgoajlgkbcongaa.Vm
open Go Go.RowKit
def AV.flat : AV → Bool
  | .int .. => true
  | .bool _ => true
  | .str _ => true
  | .fn _ => true
  | .nil => true
  | .fz _ => true
  | .fad .. => true
  | _ => false
def flatRows (rows : List (List AV)) : Bool := rows.all fun r => r.all AV.flat
theorem cell_append (rows ys : List (List AV)) (j k : Nat) : cell (rows ++ ys) j k = if j < rows.length then cell rows j k else cell ys (j - rows.length) k := by
  unfold cell
  rw [List.getElem?_append]
  split <;> rfl
section
variable {P : Program} {K : Base} {o : Oper} {fr fr' : Fr}
theorem VR.flat {C : Cx} {v : AV} {cv : Value} {F : FP} (h : VR C v cv F) (hf : v.flat = true) : (∀ x, ¬ F x) ∧ FZ C.w C.D v cv := by
  cases h with
  | lit v cv h => exact ⟨fun _ h => h, h⟩
  | _ => simp [AV.flat] at hf
theorem flat_cell {rows : List (List AV)} (h : flatRows rows = true) {j k : Nat} {v : AV} (hc : cell rows j k = some v) : v.flat = true := by
  unfold cell at hc
  cases hr : rows[j]? with
  | none => simp [hr] at hc
  | some row =>
    simp only [hr, Option.bind_some] at hc
    exact List.all_eq_true.1 (List.all_eq_true.1 h row (List.mem_of_getElem? hr)) v (List.mem_of_getElem? hc)
/-- Rows that are appended: the slice's header, its cells. -/
structure Src (C : Cx) (sz : Nat) (ys : List (List AV)) (cy : Value) (Fy : Nat → Nat → FP) (A : Option Addr) (c : Nat) (news : List Value) : Prop where
  hdr : cy = .slice A ys.length c
  none : A = Option.none → ys.length = 0
  len : news.length = ys.length * sz
  cells : ∀ ad, A = some ad → ∀ j u, news[j]? = some u → C.w.cell? (ad.add j) = some u
  one : ∀ u ∈ news, u.oneCell' = true
  vr : ∀ j k v, cell ys j k = some v → ∃ cu, news[j * sz + k]? = some cu ∧ VR C v cu (Fy j k)
  dis : ∀ j k j' k' x, (cell ys j k).isSome → (cell ys j' k').isSome → Fy j k x → Fy j' k' x → j = j' ∧ k = k'
/-- The slice that is appended to: nil, or one's own. -/
structure Bas (C : Cx) (sz : Nat) (rows : List (List AV)) (cs : Value) (Fs : FP) : Prop where
  form : (cs = .slice none 0 0 ∧ rows = [] ∧ ∀ x, ¬ Fs x) ∨ ∃ (b cap e : Nat) (cur : Array Value) (Fc : Nat → Nat → FP), cs = .slice (some ⟨b, 0, none⟩) rows.length cap ∧ rows.length ≤ cap ∧ cap ≤ 9223372036854775807 ∧ C.w.heap[b]? = some (.cells cur e (0, 0)) ∧ cur.size = cap * sz ∧
    (∀ (i : Nat) (u : Value), cur[i]? = some u → u.oneCell' = true) ∧ (∀ j k v, cell rows j k = some v → ∃ cu, cur[j * sz + k]? = some cu ∧ VR C v cu (Fc j k)) ∧ (∀ x, Fs x ↔ x = b ∨ ∃ j k, (cell rows j k).isSome ∧ Fc j k x) ∧
    (∀ j k j' k' x, (cell rows j k).isSome → (cell rows j' k').isSome → Fc j k x → Fc j' k' x → j = j' ∧ k = k') ∧ (∀ j k, (cell rows j k).isSome → ¬ Fc j k b)
  rows : ∀ row ∈ rows, row.length = sz
theorem VR.bas {C : Cx} {id sz : Nat} {rows : List (List AV)} {cs : Value} {Fs : FP} (h : VR C (.own id sz rows) cs Fs) : Bas C sz rows cs Fs := by
  cases h with
  | lit v cv h => cases h
  | ownNil id sz hid hη => exact ⟨.inl ⟨rfl, rfl, fun _ h => h⟩, by simp⟩
  | own id sz rows b n cap e cur cvs Fc F hid hη hn hsz hcap hmax hb hcur hone hcell hv hF hdis hself =>
    subst hn
    exact ⟨.inr ⟨b, cap, e, cur, Fc, rfl, hcap, hmax, hb, hcur, hone, fun j k v hj => ⟨_, hcell j k v hj, hv j k v hj⟩, hF, hdis, hself⟩, hsz⟩
/-- What an append comes to. -/
structure Appd (C C' : Cx) (sz : Nat) (out : List (List AV)) (cv : Value) (Fs Fv F' : FP) : Prop where
  vr : VR C' (.own C.g sz out) cv F'
  g : C'.g = C.g + 1
  D : ∀ x, C.D x → C'.D x
  lt : ∀ x, C'.D x → x < C'.w.heap.size
  sub : ∀ x, F' x → C'.D x
  new : ∀ x, F' x → Fv x ∨ C.w.heap.size ≤ x
  compat : Compat C C' (fun x => C.D x ∧ ¬ Fs x)
  fram : Fram C.w Fs C'.w
theorem cell_lt {rows : List (List AV)} {sz : Nat} (hr : ∀ row ∈ rows, row.length = sz) {j k : Nat} {v : AV} (h : cell rows j k = some v) : j < rows.length ∧ k < sz := by
  unfold cell at h
  cases hx : rows[j]? with
  | none => simp [hx] at h
  | some row =>
    simp only [hx, Option.bind_some] at h
    exact ⟨(List.getElem?_eq_some_iff.1 hx).1, by rw [← hr row (List.mem_of_getElem? hx)]; exact (List.getElem?_eq_some_iff.1 h).1⟩
theorem append_sound {C : Cx} {t ty : TypeId} {sz : Nat} {inf : TypeInfo} {rows ys : List (List AV)} {cs cy : Value} {Fs Fv : FP} {Fy : Nat → Nat → FP} {A : Option Addr} {c : Nat} {news : List Value} (hu : P.underlying t = some (.slice (P.elem t))) (hi : P.info? (P.elem t) = some inf) (hsz : inf.size = sz)
    (hz : inf.zero.isSome) (hzo : (inf.zero.map fun z => z.cells.size) = some sz) (hz1 : oneCells P (P.elem t) = true) (hbas : Bas C sz rows cs Fs) (hsrc : Src C sz ys cy Fy A c news) (hys : ∀ row ∈ ys, row.length = sz) (hlt : ∀ x, C.D x → x < C.w.heap.size)
    (hFv : ∀ x, Fv x ↔ Fs x ∨ ∃ j k, (cell ys j k).isSome ∧ Fy j k x) (hdis : ∀ j k x, (cell ys j k).isSome → Fy j k x → ¬ Fs x) (hD : ∀ x, Fv x → C.D x) (h63 : rows.length + ys.length ≤ 9223372036854775807) (hby : (rows.length + ys.length) * inf.bytes ≤ 140737488355328) :
    ∃ C' cv F', (Builtin.append_ #[t, t] ty #[cs, cy]).run P C.w = .ok cv C'.w ∧ Appd C C' sz (rows ++ ys) cv Fs Fv F' := by
  obtain ⟨z, hz0⟩ := Option.isSome_iff_exists.1 hz
  simp only [hz0, Option.map_some, Option.some.injEq] at hzo
  subst hsz
  have hzone : ∀ u ∈ z.cells.toList, u.oneCell' = true := by
    simp only [oneCells, hi, hz0, Option.bind_some, Option.any_some] at hz1
    exact List.all_eq_true.1 hz1
  have hrl : ∀ row ∈ rows ++ ys, row.length = inf.size := fun row h => (List.mem_append.1 h).elim (hbas.rows row) (hys row)
  have grow : ∀ (old : Nat) (Fc : Nat → Nat → FP) (olds : List Value), olds.length = rows.length * inf.size → (∀ u ∈ olds, u.oneCell' = true) → (∀ j k v, cell rows j k = some v → ∃ cu, olds[j * inf.size + k]? = some cu ∧ VR C v cu (Fc j k)) →
      (∀ x, (∃ j k, (cell rows j k).isSome ∧ Fc j k x) → Fs x) → (∀ j k j' k' x, (cell rows j k).isSome → (cell rows j' k').isSome → Fc j k x → Fc j' k' x → j = j' ∧ k = k') →
      ∃ C' F', C'.w = C.w.drew.alloc (.cells (olds.toArray ++ news.toArray ++ Builtin.zeroCells z.cells (grownCap C.w (rows.length + ys.length) old (P.elem t) - (rows.length + ys.length))) (P.elem t)) ∧
        Appd C C' inf.size (rows ++ ys) (.slice (some ⟨C.w.heap.size, 0, none⟩) (rows.length + ys.length) (grownCap C.w (rows.length + ys.length) old (P.elem t))) Fs Fv F' := by
    intro old Fc olds hol hoone hov hFs hFd
    have hge := grownCap_ge C.w (rows.length + ys.length) old (P.elem t)
    have hle := grownCap_le_maxLen C.w (rows.length + ys.length) old (P.elem t) (by simpa [maxLen] using h63)
    generalize hcap : grownCap C.w (rows.length + ys.length) old (P.elem t) = cap at hge hle ⊢
    have hnb := NewBlock.drewAlloc C.w (.cells (olds.toArray ++ news.toArray ++ Builtin.zeroCells z.cells (cap - (rows.length + ys.length))) (P.elem t))
    generalize hcur : olds.toArray ++ news.toArray ++ Builtin.zeroCells z.cells (cap - (rows.length + ys.length)) = cur at hnb ⊢
    have hcs : cur.size = cap * inf.size := by
      rw [← hcur]
      simp only [Array.size_append, List.size_toArray, size_zeroCells, hzo, hol, hsrc.len, ← Nat.add_mul]
      congr 1
      omega
    have hat : ∀ (i : Nat) (u : Value), (olds ++ news)[i]? = some u → cur[i]? = some u := by
      intro i u h
      have hl : i < (olds ++ news).length := (List.getElem?_eq_some_iff.1 h).1
      rw [← hcur, Array.getElem?_append_left (by simp at hl ⊢; omega)]
      simpa using h
    let Fcc : Nat → Nat → FP := fun j k => if j < rows.length then Fc j k else Fy (j - rows.length) k
    have hFF : ∀ x, (∃ j k, (cell (rows ++ ys) j k).isSome ∧ Fcc j k x) → Fv x := by
      rintro x ⟨j, k, h1, h2⟩
      rw [cell_append] at h1
      rw [hFv]
      by_cases e : j < rows.length
      · simp only [Fcc, if_pos e] at h1 h2; exact .inl (hFs x ⟨j, k, h1, h2⟩)
      · simp only [Fcc, if_neg e] at h1 h2; exact .inr ⟨_, k, h1, h2⟩
    have hvr := VR.newOwn (C := C) (rows := rows ++ ys) (n := rows.length + ys.length) (cap := cap) (sz := inf.size) (Fc := Fcc) (Fv := fun x => ∃ j k, (cell (rows ++ ys) j k).isSome ∧ Fcc j k x) hnb hlt (by simp) hrl hge (by simpa [maxLen] using hle) hcs
      (fun j k u hj => by
        rw [cell_append] at hj
        by_cases e : j < rows.length
        · simp only [if_pos e] at hj
          simp only [Fcc, if_pos e]
          obtain ⟨cu, h1, h2⟩ := hov j k u hj
          exact ⟨cu, hat _ _ (by rw [List.getElem?_append_left (List.getElem?_eq_some_iff.1 h1).1]; exact h1), h2⟩
        · simp only [if_neg e] at hj
          simp only [Fcc, if_neg e]
          obtain ⟨cu, h1, h2⟩ := hsrc.vr _ k u hj
          refine ⟨cu, hat _ _ ?_, h2⟩
          have hm : rows.length * inf.size ≤ j * inf.size := Nat.mul_le_mul_right _ (by omega)
          rw [List.getElem?_append_right (by rw [hol]; omega), hol, show j * inf.size + k - rows.length * inf.size = (j - rows.length) * inf.size + k by rw [Nat.sub_mul]; omega]
          exact h1) (fun x => Iff.rfl) (fun j k j' k' x h1 h2 h3 h4 => by
        rw [cell_append] at h1 h2
        by_cases e : j < rows.length <;> by_cases e' : j' < rows.length
        · simp only [Fcc, if_pos e, if_pos e'] at h1 h2 h3 h4; exact hFd j k j' k' x h1 h2 h3 h4
        · simp only [Fcc, if_pos e, if_neg e'] at h1 h2 h3 h4; exact absurd (hFs x ⟨j, k, h1, h3⟩) (hdis _ _ x h2 h4)
        · simp only [Fcc, if_neg e, if_pos e'] at h1 h2 h3 h4; exact absurd (hFs x ⟨j', k', h2, h4⟩) (hdis _ _ x h1 h3)
        · simp only [Fcc, if_neg e, if_neg e'] at h1 h2 h3 h4
          obtain ⟨e1, e2⟩ := hsrc.dis _ _ _ _ x h1 h2 h3 h4
          exact ⟨by omega, e2⟩) (fun i u hu => by
        rw [← hcur] at hu
        have hm : u ∈ olds ++ news ++ (Builtin.zeroCells z.cells (cap - (rows.length + ys.length))).toList := by
          have := Array.mem_toList_iff.2 (Array.mem_of_getElem? hu)
          simpa using this
        rcases List.mem_append.1 hm with h | h
        · exact (List.mem_append.1 h).elim (hoone u) (hsrc.one u)
        · simp only [Builtin.zeroCells, Array.toList_map, List.mem_map] at h
          obtain ⟨q, hq, rfl⟩ := h
          by_cases h0 : z.cells.size = 0
          · have : z.cells = #[] := Array.eq_empty_of_size_eq_zero h0
            simp [this]
            rfl
          · have hm : q % z.cells.size < z.cells.size := Nat.mod_lt _ (by omega)
            simp only [getElem!_pos, hm]
            exact hzone _ (Array.getElem_mem_toList hm)) (fun x hx => hD x (hFF x hx))
    exact ⟨_, _, rfl, hvr, rfl, fun x hx => .inl hx, fun x hx => by
      show x < (C.w.drew.alloc _).heap.size
      rw [hnb.size]
      rcases hx with h | h
      · have := hlt x h; omega
      · omega, fun x hx => hx.elim .inr (fun h => .inl (hD x (hFF x h))), fun x hx => hx.elim (fun e => .inr (by omega)) (fun h => .inl (hFF x h)), hnb.compat hlt (fun x hx => hlt x hx.1), hnb.fram _⟩
  rcases hbas.form with ⟨rfl, rfl, hFs0⟩ | ⟨b, cap, e, cur, Fc, rfl, hcap, hmax, hb, hcur, hone, hcell, hF, hFd, hself⟩
  · simp only [List.length_nil, Nat.zero_add] at grow h63 hby ⊢
    by_cases hm : ys.length = 0
    · have hy0 : ys = [] := List.eq_nil_of_length_eq_zero hm
      subst hy0
      have hn0 : news = [] := List.eq_nil_of_length_eq_zero (by rw [hsrc.len]; simp)
      refine ⟨⟨C.w, C.D, fun id => if id = C.g then .slice none 0 0 else C.η id, C.g + 1⟩, .slice none 0 0, _, ?_, .ownNil C.g inf.size (Nat.lt_succ_self _) (by simp), rfl, fun _ h => h, hlt, fun _ h => h.elim, fun _ h => h.elim, ⟨Nat.le_succ _, fun id hid => by simp; omega, fun _ _ => rfl, fun _ _ h => ⟨rfl, h⟩⟩, .refl _ _⟩
      have := hsrc.hdr
      subst this
      cases A with
      | none => simp [Builtin.append_, run_underlying hu, sizeOf, typeInfo, hi, Builtin.lenOf, Builtin.firstCells]
      | some ad => simp [Builtin.append_, run_underlying hu, sizeOf, typeInfo, hi, Builtin.lenOf, Builtin.firstCells, loadCells, loadCellsFrom]
    · cases A with
      | none => exact absurd (hsrc.none rfl) hm
      | some ad =>
        obtain ⟨C', F', hw, hap⟩ := grow 0 (fun _ _ _ => False) [] (by simp) (by simp) (fun j k v h => by simp [cell] at h) (fun x ⟨_, _, _, h⟩ => h.elim) (fun _ _ _ _ _ _ _ h => h.elim)
        refine ⟨C', _, F', ?_, hap⟩
        rw [hsrc.hdr, run_append_nil (P := P) C.w t ty (P.elem t) inf z hu hi hz0 ad ys.length c news hsrc.len (hsrc.cells ad rfl) (by omega) (by omega) (by omega), hw]
        simp
  · by_cases hroom : rows.length + ys.length ≤ cap
    · have hfit : rows.length * inf.size + news.length ≤ cur.size := by rw [hsrc.len, hcur, ← Nat.add_mul]; exact Nat.mul_le_mul_right _ hroom
      have hFsb : Fs b := (hF b).2 (.inl rfl)
      have hbD : C.D b := hD b ((hFv b).2 (.inl hFsb))
      let cur' : Array Value := (cur.toList.take (rows.length * inf.size) ++ news ++ cur.toList.drop (rows.length * inf.size + news.length)).toArray
      have hc's : cur'.size = cur.size := by simp [cur']; omega
      have hat : ∀ i, i < rows.length * inf.size → cur'[i]? = cur[i]? := by
        intro i hlt'
        simp only [cur', List.getElem?_toArray, List.append_assoc]
        rw [List.getElem?_append_left (by simp; omega), List.getElem?_take, if_pos hlt', Array.getElem?_toList]
      have hat2 : ∀ (i : Nat) (u : Value), news[i]? = some u → cur'[rows.length * inf.size + i]? = some u := by
        intro i u h
        have hl := (List.getElem?_eq_some_iff.1 h).1
        have hlen : (cur.toList.take (rows.length * inf.size)).length = rows.length * inf.size := by simp; omega
        simp only [cur', List.getElem?_toArray, List.append_assoc]
        rw [List.getElem?_append_right (by rw [hlen]; omega), hlen, Nat.add_sub_cancel_left, List.getElem?_append_left hl]
        exact h
      have key : ∀ w' : World, w'.heap[b]? = some (.cells cur' e (0, 0)) → w'.heap.size = C.w.heap.size → (∀ x, x ≠ b → w'.heap[x]? = C.w.heap[x]?) → w'.os = C.w.os → w'.tape = C.w.tape → w'.output = C.w.output →
          ∃ C' F', C'.w = w' ∧ Appd C C' inf.size (rows ++ ys) (.slice (some ⟨b, 0, none⟩) (rows.length + ys.length) cap) Fs Fv F' := by
        intro w' h1 h2 h3 h4 h5 h6
        let C' : Cx := ⟨w', C.D, fun id => if id = C.g then .slice (some ⟨b, 0, none⟩) (rows.length + ys.length) cap else C.η id, C.g + 1⟩
        have hcp : ∀ G : FP, (∀ x, G x → x ≠ b) → Compat C C' G := fun G hG => ⟨Nat.le_succ _, fun id hid => by simp only [C']; rw [if_neg (by omega)], fun x hx => h3 x (hG x hx), fun x _ hx => ⟨h3 x (fun e => hx (e ▸ hbD)), hx⟩⟩
        let Fcc : Nat → Nat → FP := fun j k => if j < rows.length then Fc j k else Fy (j - rows.length) k
        have hFF : ∀ x, (∃ j k, (cell (rows ++ ys) j k).isSome ∧ Fcc j k x) → Fv x ∧ x ≠ b := by
          rintro x ⟨j, k, q1, q2⟩
          rw [cell_append] at q1
          rw [hFv]
          by_cases e : j < rows.length
          · simp only [Fcc, if_pos e] at q1 q2; exact ⟨.inl ((hF x).2 (.inr ⟨j, k, q1, q2⟩)), fun e' => hself j k q1 (e' ▸ q2)⟩
          · simp only [Fcc, if_neg e] at q1 q2; exact ⟨.inr ⟨_, k, q1, q2⟩, fun e' => hdis _ k x q1 q2 (e' ▸ hFsb)⟩
        have hcs : ∀ j k v, cell (rows ++ ys) j k = some v → ∃ cu, cur'[j * inf.size + k]? = some cu ∧ VR C v cu (Fcc j k) := by
          intro j k v hj
          have hj0 := hj
          rw [cell_append] at hj
          by_cases e : j < rows.length
          · simp only [if_pos e] at hj
            simp only [Fcc, if_pos e]
            obtain ⟨cu, q1, q2⟩ := hcell j k v hj
            exact ⟨cu, by rw [hat _ (idx_lt e (cell_lt hbas.rows hj).2)]; exact q1, q2⟩
          · simp only [if_neg e] at hj
            simp only [Fcc, if_neg e]
            obtain ⟨cu, q1, q2⟩ := hsrc.vr _ k v hj
            refine ⟨cu, ?_, q2⟩
            have := hat2 _ _ q1
            have hm : rows.length * inf.size ≤ j * inf.size := Nat.mul_le_mul_right _ (by omega)
            rwa [show rows.length * inf.size + ((j - rows.length) * inf.size + k) = j * inf.size + k by rw [Nat.sub_mul]; omega] at this
        refine ⟨C', _, rfl, VR.own (C := C') C.g inf.size (rows ++ ys) b (rows.length + ys.length) cap e cur' (fun j k => cur'.getD (j * inf.size + k) Go.undef) Fcc (fun x => x = b ∨ ∃ j k, (cell (rows ++ ys) j k).isSome ∧ Fcc j k x) (Nat.lt_succ_self _) (by simp [C']) (by simp) hrl hroom hmax h1 (by rw [hc's]; exact hcur) (fun i u hu => ?_) (fun j k v hj => ?_) (fun j k v hj => ?_) (fun x => Iff.rfl) (fun j k j' k' x q1 q2 q3 q4 => ?_) (fun j k q1 q2 => (hFF b ⟨j, k, q1, q2⟩).2 rfl),
          rfl, fun _ h => h, fun x hx => by show x < w'.heap.size; rw [h2]; exact hlt x hx, fun x hx => hx.elim (fun e => e ▸ hbD) (fun h => hD x (hFF x h).1), fun x hx => hx.elim (fun e => .inl (e ▸ (hFv b).2 (.inl hFsb))) (fun h => .inl (hFF x h).1), hcp _ (fun x hx e => hx.2 (e ▸ hFsb)),
          ⟨h4, h5, h6, by show C.w.heap.size ≤ w'.heap.size; rw [h2]; exact Nat.le_refl _, fun x _ hx => h3 x (fun e => hx (e ▸ hFsb))⟩⟩
        · have hm := Array.mem_toList_iff.2 (Array.mem_of_getElem? hu)
          simp only [cur', List.mem_append] at hm
          rcases hm with (h | h) | h
          · have := List.mem_of_mem_take h
            obtain ⟨i', hi'⟩ := List.mem_iff_getElem?.1 this
            exact hone i' u (by simpa using hi')
          · exact hsrc.one u h
          · have := List.mem_of_mem_drop h
            obtain ⟨i', hi'⟩ := List.mem_iff_getElem?.1 this
            exact hone i' u (by simpa using hi')
        · obtain ⟨cu, q1, _⟩ := hcs j k v hj
          rw [q1, getD_at q1]
        · obtain ⟨cu, q1, q2⟩ := hcs j k v hj
          rw [getD_at q1]
          exact q2.mono (hcp _ fun x hx => (hFF x ⟨j, k, by rw [hj]; rfl, hx⟩).2)
        · rw [cell_append] at q1 q2
          by_cases e : j < rows.length <;> by_cases e' : j' < rows.length
          · simp only [Fcc, if_pos e, if_pos e'] at q1 q2 q3 q4; exact hFd j k j' k' x q1 q2 q3 q4
          · simp only [Fcc, if_pos e, if_neg e'] at q1 q2 q3 q4; exact absurd ((hF x).2 (.inr ⟨j, k, q1, q3⟩)) (hdis _ _ x q2 q4)
          · simp only [Fcc, if_neg e, if_pos e'] at q1 q2 q3 q4; exact absurd ((hF x).2 (.inr ⟨j', k', q2, q4⟩)) (hdis _ _ x q1 q3)
          · simp only [Fcc, if_neg e, if_neg e'] at q1 q2 q3 q4
            obtain ⟨e1, e2⟩ := hsrc.dis _ _ _ _ x q1 q2 q3 q4
            exact ⟨by omega, e2⟩
      cases A with
      | none =>
        have hm := hsrc.none rfl
        have hn0 : news = [] := List.eq_nil_of_length_eq_zero (by rw [hsrc.len, hm]; simp)
        have hcc : cur' = cur := by
          simp only [cur', hn0, List.length_nil, Nat.add_zero, List.append_nil, List.take_append_drop, Array.toArray_toList]
        obtain ⟨C', F', hw, hap⟩ := key C.w (by rw [hcc]; exact hb) rfl (fun _ _ => rfl) rfl rfl rfl
        refine ⟨C', _, F', ?_, hap⟩
        rw [hsrc.hdr, hw]
        have hcap' : rows.length ≤ cap := hcap
        simp [Builtin.append_, run_underlying hu, sizeOf, typeInfo, hi, Builtin.lenOf, Builtin.firstCells, hm, hcap', storeCells]
      | some ad =>
        obtain ⟨C', F', hw, hap⟩ := key (C.w.setRow b cur') (setRow_heap C.w b cur _ e (0, 0) hb) (setRow_size _ _ _) (fun x hx => setRow_other _ _ _ _ hx) rfl rfl rfl
        refine ⟨C', _, F', ?_, hap⟩
        rw [hsrc.hdr, hw]
        have hf := run_firstCells_some (P := P) C.w inf.size ys.length ad ys.length c news hsrc.len (hsrc.cells ad rfl)
        have hst := run_storeCells_at P b (rows.length * inf.size) e news 0 cur C.w hb (by simpa using hfit) hsrc.one
        simp only [Nat.add_zero] at hst
        simp [Builtin.append_, run_underlying hu, sizeOf, typeInfo, hi, Builtin.lenOf, hroom, hf, Addr.add_lit, hst, cur']
    · have holds : (cur.toList.take (rows.length * inf.size)).length = rows.length * inf.size := by
        have : rows.length * inf.size ≤ cap * inf.size := Nat.mul_le_mul_right _ hcap
        rw [List.length_take]; have e1 : cur.toList.length = cap * inf.size := by rw [Array.length_toList]; exact hcur
        omega
      obtain ⟨C', F', hw, hap⟩ := grow cap Fc (cur.toList.take (rows.length * inf.size)) holds (fun u hu => by
          obtain ⟨i', hi'⟩ := List.mem_iff_getElem?.1 (List.mem_of_mem_take hu)
          exact hone i' u (by simpa using hi')) (fun j k v hj => by
          obtain ⟨cu, q1, q2⟩ := hcell j k v hj
          have hl := cell_lt hbas.rows hj
          exact ⟨cu, by rw [List.getElem?_take, if_pos (idx_lt hl.1 hl.2), Array.getElem?_toList]; exact q1, q2⟩) (fun x h => (hF x).2 (.inr h)) hFd
      have hpos : 0 < ys.length := by omega
      cases A with
      | none => have := hsrc.none rfl; omega
      | some ad =>
        refine ⟨C', _, F', ?_, hap⟩
        rw [hsrc.hdr, hw]
        exact run_append_grow (P := P) C.w t ty (P.elem t) inf z hu hi hz0 ⟨b, 0, none⟩ rows.length cap _ holds (fun j v hj => by
          rw [List.getElem?_take] at hj
          split at hj
          · rw [Addr.add_lit, Nat.zero_add, cell_of_cells hb]; simpa using hj
          · cases hj) ad ys.length c news hsrc.len (hsrc.cells ad rfl) (by omega) (by omega) (growslice_fits (by omega) hby)
end
end Go.Proofs.Ytgoajlgkbcongaa.Vm
end
section
set_option linter.unusedVariables false
set_option linter.unusedSimpArgs false
namespace Go.Proofs.Ytgoajlgkbcongaa.Vm
open Go Go.RowKit
/-- The rows that are appended; what is no plain data is moved out of its place. -/
def Fr.src (fr : Fr) (y : AV) : Option (List (List AV) × Fr) :=
  match y with
  | .fz rows => some (rows, fr)
  | .nil => some ([], fr)
  | .bor p id => match fr.get p with
    | some (.own id' sz rows) => if id' = id then (if flatRows rows then some (rows, fr) else some (rows, fr.put p .undef)) else none
    | _ => none
  | _ => none
/-- The slice that is appended to, moved out of its place. -/
def Fr.bas (fr : Fr) (z : Nat) (s : AV) : Option (List (List AV) × Fr) :=
  match s with
  | .nil => some ([], fr)
  | .bor p id => match fr.get p with
    | some (.own id' sz rows) => if id' = id ∧ sz = z then some (rows, fr.put p .undef) else none
    | _ => none
  | _ => none
section
variable {P : Program} {K : Base} {o : Oper} {fr fr' : Fr}
theorem news_of {w : World} {rows : List (List AV)} {sz : Nat} (hr : ∀ row ∈ rows, row.length = sz) (cvs : Nat → Nat → Value) {b off : Nat} (hc : ∀ j k v, cell rows j k = some v → w.cell? ⟨b, off + (j * sz + k), none⟩ = some (cvs j k)) :
    let news := (List.range (rows.length * sz)).map fun i => cvs (i / sz) (i % sz)
    (∀ (j : Nat) (u : Value), news[j]? = some u → w.cell? ((⟨b, off, none⟩ : Addr).add j) = some u ∧ ∃ q k v, cell rows q k = some v ∧ u = cvs q k) ∧ ∀ j k v, cell rows j k = some v → news[j * sz + k]? = some (cvs j k) := by
  intro news
  refine ⟨fun j u hj => ?_, fun j k v hj => ?_⟩
  · have hlt : j < rows.length * sz := by have := (List.getElem?_eq_some_iff.1 hj).1; simpa [news] using this
    have h0 : 0 < sz := Nat.pos_of_ne_zero fun e => by subst e; simp at hlt
    simp only [news, List.getElem?_map, List.getElem?_range hlt, Option.map_some, Option.some.injEq] at hj
    subst hj
    have hq : j / sz < rows.length := (Nat.div_lt_iff_lt_mul h0).2 hlt
    have hk : j % sz < sz := Nat.mod_lt _ h0
    have hrow : rows[j / sz]? = some rows[j / sz] := List.getElem?_eq_getElem hq
    have hlen : (rows[j / sz]).length = sz := hr _ (List.getElem_mem hq)
    have hcell : cell rows (j / sz) (j % sz) = some ((rows[j / sz])[j % sz]'(by rw [hlen]; exact hk)) := by unfold cell; rw [hrow]; exact List.getElem?_eq_getElem _
    have := hc _ _ _ hcell
    rw [Addr.add_lit]
    have e : j / sz * sz + j % sz = j := by rw [Nat.mul_comm]; exact Nat.div_add_mod j sz
    rw [e] at this
    exact ⟨this, _, _, _, hcell, rfl⟩
  · obtain ⟨h1, h2⟩ := cell_lt hr hj
    have h0 : 0 < sz := by omega
    have hlt := idx_lt h1 h2
    have e1 : (j * sz + k) / sz = j := by rw [Nat.mul_comm, Nat.mul_add_div h0, Nat.div_eq_of_lt h2, Nat.add_zero]
    have e2 : (j * sz + k) % sz = k := by rw [Nat.mul_comm, Nat.mul_add_mod, Nat.mod_eq_of_lt h2]
    simp only [news, List.getElem?_map, List.getElem?_range hlt, Option.map_some, e1, e2]
theorem Rel.src {C : Cx} {tm : Nat → Value} {F : Nat → FP} (h : Rel C fr tm F) {y : AV} {cy : Value} {sz : Nat} {ys : List (List AV)} {fr1 : Fr} (hy : VR C y cy (fun _ => False)) (hs : fr.src y = some (ys, fr1)) (hys : ∀ row ∈ ys, row.length = sz) :
    ∃ (A : Option Addr) (c : Nat) (news : List Value) (Fy : Nat → Nat → FP) (F1 : Nat → FP) (Fv : FP), Src C sz ys cy Fy A c news ∧ Moved C fr fr1 tm F F1 Fv ∧ (∀ x, (∃ j k, (cell ys j k).isSome ∧ Fy j k x) → Fv x) := by
  unfold Fr.src at hs
  split at hs
  · rename_i rows
    simp only [Option.some.injEq, Prod.mk.injEq] at hs
    obtain ⟨rfl, rfl⟩ := hs
    cases hy with
    | lit v cv hf =>
      cases hf with
      | fz _ A n cap sz' cvs hn hsz hcap hmax hcell hv hone =>
        by_cases h0 : 0 < n
        · obtain ⟨b, off, rfl, hb, hD, hc⟩ := hcell h0
          have hss : sz' = sz := by
            obtain ⟨r, hr⟩ := List.exists_mem_of_ne_nil rows (by intro e; subst e; simp at hn; omega)
            rw [← hsz r hr, hys r hr]
          subst hss
          obtain ⟨q1, q2⟩ := news_of (w := C.w) hys cvs hc
          refine ⟨some ⟨b, off, none⟩, cap, _, fun _ _ _ => False, F, _, ⟨by rw [hn], (fun h => by cases h), by simp, fun ad e j u hj => by cases e; exact (q1 j u hj).1, fun u hu => ?_, fun j k v hj => ⟨_, q2 j k v hj, .lit _ _ (hv j k v hj)⟩, fun _ _ _ _ _ _ _ h => h.elim⟩, .same h, fun x ⟨_, _, _, h⟩ => h⟩
          obtain ⟨j, hj⟩ := List.mem_iff_getElem?.1 hu
          obtain ⟨_, q, k, v, hc', rfl⟩ := q1 j u hj
          exact hone q k v hc'
        · have hn0 : n = 0 := by omega
          subst hn0
          have : rows = [] := List.eq_nil_of_length_eq_zero hn
          subst this
          exact ⟨A, cap, [], fun _ _ _ => False, F, _, ⟨rfl, fun _ => rfl, by simp, fun _ _ j u hj => by simp at hj, fun u hu => by simp at hu, fun j k v hj => by simp [cell] at hj, fun _ _ _ _ _ _ _ h => h.elim⟩, .same h, fun x ⟨_, _, _, h⟩ => h⟩
  · simp only [Option.some.injEq, Prod.mk.injEq] at hs
    obtain ⟨rfl, rfl⟩ := hs
    cases hy with
    | lit v cv hf =>
      cases hf
      exact ⟨none, 0, [], fun _ _ _ => False, F, _, ⟨rfl, fun _ => rfl, by simp, fun _ _ j u hj => by simp at hj, fun u hu => by simp at hu, fun j k v hj => by simp [cell] at hj, fun _ _ _ _ _ _ _ h => h.elim⟩, .same h, fun x ⟨_, _, _, h⟩ => h⟩
  · rename_i p id
    cases hg : fr.get p with
    | none => simp [hg] at hs
    | some q =>
      obtain ⟨cc, Fc, F', hv, hmv⟩ := h.take hg
      cases q with
      | own id' sz' rows =>
        simp only [hg] at hs
        split at hs
        · rename_i e
          subst e
          have hcy : cy = cc := by rw [hy.borHdr.1, ← hv.hdr]
          subst hcy
          have hbase : ys = rows := by split at hs <;> (simp only [Option.some.injEq, Prod.mk.injEq] at hs; exact hs.1.symm)
          subst hbase
          have hsrc : ∃ (A : Option Addr) (c : Nat) (news : List Value) (Fy : Nat → Nat → FP), Src C sz ys cy Fy A c news ∧ (∀ x, (∃ j k, (cell ys j k).isSome ∧ Fy j k x) → Fc x) := by
            cases hv with
            | lit v cv h => cases h
            | ownNil => exact ⟨none, 0, [], fun _ _ _ => False, ⟨rfl, fun _ => rfl, by simp, fun _ _ j u hj => by simp at hj, fun u hu => by simp at hu, fun j k v hj => by simp [cell] at hj, fun _ _ _ _ _ _ _ h => h.elim⟩, fun x ⟨_, _, _, h⟩ => h⟩
            | own id sz rows b n cap e cur cvs Fcc F hid hη hn hsz hcap hmax hb hcur hone hcell hvv hF hdis hself =>
              subst hn
              by_cases h0 : ys = []
              · subst h0
                exact ⟨some ⟨b, 0, none⟩, cap, [], fun _ _ _ => False, ⟨rfl, (fun h => by cases h), by simp, fun _ _ j u hj => by simp at hj, fun u hu => by simp at hu, fun j k v hj => by simp [cell] at hj, fun _ _ _ _ _ _ _ h => h.elim⟩, fun x ⟨_, _, _, h⟩ => h.elim⟩
              · have hss : sz' = sz := by
                  obtain ⟨r, hr⟩ := List.exists_mem_of_ne_nil ys h0
                  rw [← hsz r hr, hys r hr]
                subst hss
                have hle : ys.length * sz' ≤ cap * sz' := Nat.mul_le_mul_right _ hcap
                refine ⟨some ⟨b, 0, none⟩, cap, cur.toList.take (ys.length * sz'), Fcc, ⟨rfl, (fun h => by cases h), ?_, fun ad e j u hj => ?_, fun u hu => ?_, fun j k v hj => ⟨_, ?_, hvv j k v hj⟩, hdis⟩, fun x hx => (hF x).2 (.inr hx)⟩
                · rw [List.length_take]; have e1 : cur.toList.length = cap * sz' := by rw [Array.length_toList]; exact hcur
                  omega
                · cases e
                  rw [List.getElem?_take] at hj
                  split at hj
                  · rw [Addr.add_lit, Nat.zero_add, cell_of_cells hb]; simpa using hj
                  · cases hj
                · obtain ⟨i', hi'⟩ := List.mem_iff_getElem?.1 (List.mem_of_mem_take hu)
                  exact hone i' u (by simpa using hi')
                · obtain ⟨l1, l2⟩ := cell_lt hsz hj
                  rw [List.getElem?_take, if_pos (idx_lt l1 l2), Array.getElem?_toList]
                  exact hcell j k v hj
          obtain ⟨A, c, news, Fy, hsr, hsub⟩ := hsrc
          split at hs
          · rename_i hfl
            simp only [Option.some.injEq, Prod.mk.injEq, true_and] at hs
            subst hs
            refine ⟨A, c, news, fun _ _ _ => False, F, _, ⟨hsr.hdr, hsr.none, hsr.len, hsr.cells, hsr.one, fun j k v hj => ?_, fun _ _ _ _ _ _ _ h => h.elim⟩, .same h, fun x ⟨_, _, _, h⟩ => h⟩
            obtain ⟨cu, h1, h2⟩ := hsr.vr j k v hj
            exact ⟨cu, h1, .lit _ _ (h2.flat (flat_cell hfl hj)).2⟩
          · simp only [Option.some.injEq, Prod.mk.injEq, true_and] at hs
            subst hs
            exact ⟨A, c, news, Fy, F', Fc, hsr, hmv, hsub⟩
        · cases hs
      | _ => simp [hg] at hs
  · cases hs
theorem Rel.bas {C : Cx} {tm : Nat → Value} {F : Nat → FP} (h : Rel C fr tm F) {s : AV} {cs : Value} {sz : Nat} {rows : List (List AV)} {fr1 : Fr} (hy : VR C s cs (fun _ => False)) (hs : fr.bas sz s = some (rows, fr1)) :
    ∃ (F1 : Nat → FP) (Fs Fv : FP), Bas C sz rows cs Fs ∧ Moved C fr fr1 tm F F1 Fv ∧ (∀ x, Fs x → Fv x) := by
  unfold Fr.bas at hs
  split at hs
  · simp only [Option.some.injEq, Prod.mk.injEq] at hs
    obtain ⟨rfl, rfl⟩ := hs
    cases hy with
    | lit v cv hf =>
      cases hf
      exact ⟨F, fun _ => False, _, ⟨.inl ⟨rfl, rfl, fun _ h => h⟩, by simp⟩, .same h, fun x h => h⟩
  · rename_i p id
    cases hg : fr.get p with
    | none => simp [hg] at hs
    | some q =>
      obtain ⟨cc, Fc, F', hv, hmv⟩ := h.take hg
      cases q with
      | own id' sz' rows' =>
        simp only [hg] at hs
        split at hs
        · rename_i e
          obtain ⟨rfl, rfl⟩ := e
          simp only [Option.some.injEq, Prod.mk.injEq] at hs
          obtain ⟨rfl, rfl⟩ := hs
          have hcy : cs = cc := by rw [hy.borHdr.1, ← hv.hdr]
          subst hcy
          exact ⟨F', Fc, Fc, hv.bas, hmv, fun _ h => h⟩
        · cases hs
      | _ => simp [hg] at hs
  · cases hs
end
end Go.Proofs.Ytgoajlgkbcongaa.Vm
end
section
set_option linter.unusedVariables false
set_option linter.unusedSimpArgs false
namespace Go.Proofs.Ytgoajlgkbcongaa.Vm
open Go Go.RowKit
def appOK (P : Program) (t : TypeId) (sz b : Nat) : Bool :=
  match P.underlying t, P.info? (P.elem t) with
  | some (.slice _), some i => (i.zero.map fun z => z.cells.size) == some sz && i.bytes == b && i.size == sz && oneCells P (P.elem t)
  | _, _ => false
section
variable {P : Program} {K : Base} {o : Oper} {fr fr' : Fr}
theorem appOK_spec {t : TypeId} {sz b : Nat} (h : appOK P t sz b = true) : P.underlying t = some (.slice (P.elem t)) ∧ ∃ i, P.info? (P.elem t) = some i ∧ (i.zero.map fun z => z.cells.size) = some sz ∧ i.bytes = b ∧ i.size = sz ∧ oneCells P (P.elem t) = true := by
  unfold appOK at h
  split at h
  · rename_i e i he hi
    simp only [Bool.and_eq_true, beq_iff_eq] at h
    obtain ⟨⟨⟨h1, h2⟩, h3⟩, h4⟩ := h
    have : P.elem t = e := by simp [Program.elem, he]
    exact ⟨by rw [this]; exact he, i, hi, h1, h2, h3, h4⟩
  · cases h
theorem OpS.append {t : TypeId} {s y : Operand} {sz b : Nat} {rows ys : List (List AV)} {fr1 fr2 : Fr} (ho : o.op = .call { callee := .builtin .append, args := #[s, y], argTypes := #[t, t] }) (hok : appOK P t sz b = true)
    (hsrc : fr.src (fr.ev y) = some (ys, fr1)) (hbas : fr1.bas sz (fr.ev s) = some (rows, fr2)) (hys : ys.all (fun r => r.length == sz) = true) (hb : (rows.length + ys.length) * b ≤ 140737488355328) (hb0 : 0 < b)
    (hd : (fr2.fresh 1).dst o.dst (.own fr2.g sz (rows ++ ys)) = some fr') : OpS P K o fr fr' := by
  rintro a w ⟨C, F, hs⟩ next Q hnx
  obtain ⟨hu, i, hi, hz, hbi, hsi, hone⟩ := appOK_spec hok
  have hys' : ∀ row ∈ ys, row.length = sz := fun row hr => by simpa using List.all_eq_true.1 hys row hr
  obtain ⟨A, c, news, Fy, F1, Fv1, hSrc, hm1, hFy⟩ := hs.rel.src (hs.ev y) hsrc hys'
  obtain ⟨F2, Fs, Fv2, hBas, hm2, hFs⟩ := hm1.rel.bas (hs.ev s) hbas
  have hm := hm1.trans hm2
  have hw := hs.hw
  subst hw
  have hD : ∀ x, Fv1 x ∨ Fv2 x → C.D x := fun x hx => let ⟨t, ht⟩ := hm.own x hx; hs.rel.sub t x ht
  have hlen : rows.length + ys.length ≤ 140737488355328 := Nat.le_trans (Nat.le_mul_of_pos_right _ hb0) hb
  obtain ⟨C', cv, F', hr, hap⟩ := append_sound (P := P) (ty := o.type) (Fv := fun x => Fs x ∨ ∃ j k, (cell ys j k).isSome ∧ Fy j k x) hu hi hsi (by cases h : i.zero <;> simp [h] at hz ⊢) hz hone hBas hSrc hys' hs.lt (fun x => Iff.rfl)
    (fun j k x h1 h2 h3 => let ⟨t, ht⟩ := hm2.own x (hFs x h3); hm1.dis t x ht (hFy x ⟨j, k, h1, h2⟩)) (fun x hx => hD x (hx.elim (fun h => .inr (hFs x h)) (fun h => .inl (hFy x h)))) (by omega) (by rw [hbi]; exact hb)
  refine wp_value (cv := cv) (w' := C'.w) (by simp [execOp, ho, resolve, invoke, builtin, hr]) (hnx _ _ ?_)
  have hg : fr2.g = C.g := hm.g.trans hs.hg.symm
  refine hs.step (fr2 := fr2.fresh 1) hm rfl (hap.compat.mono fun x ⟨t, hx⟩ => ⟨hs.rel.sub t x (hm.sub t x hx), fun h => hm.dis t x hx (.inr (hFs x h))⟩) (fun x hx _ => hap.D x hx) hap.vr hap.sub (fun x hx => (hap.new x hx).imp (fun h => h.elim (fun h => .inr (hFs x h)) (fun h => .inl (hFy x h))) id) hap.lt
    ⟨hap.fram.os, hap.fram.tape, hap.fram.output, hap.fram.size, fun x hx hn => hap.fram.block x hx (fun h => hn (.inr (hFs x h)))⟩ rfl rfl (by rw [hap.g]; show fr2.g + 1 = _; rw [hg]) (by rw [← hg]; exact hd)
/-- 'v[:k]' of a slice of one's own, which is given up. -/
theorem OpS.pop {t : TypeId} {x hi : Operand} {sz : Nat} {rows : List (List AV)} {fr1 : Fr} {k : IntKind} {n : Nat} (ho : o.op = .slice t x none (some hi) none) (hs : elsz P t = some sz) (hbas : fr.bas sz (fr.ev x) = some (rows, fr1)) (hn : fr.ev hi = .int k n) (hle : n ≤ rows.length)
    (hd : (fr1.fresh 1).dst o.dst (.own fr1.g sz (rows.take n)) = some fr') : OpS P K o fr fr' := by
  rintro a w ⟨C, F, hst⟩ next Q hnx
  obtain ⟨F1, Fs, Fv, hBas, hm, hFs⟩ := hst.rel.bas (hst.ev x) hbas
  have hw := hst.hw
  subst hw
  have hh := hst.ev hi
  rw [hn] at hh
  have hg : fr1.g = C.g := hm.g.trans hst.hg.symm
  have hFD : ∀ x, Fs x → C.D x := fun x hx => let ⟨t, ht⟩ := hm.own x (hFs x hx); hst.rel.sub t x ht
  generalize hcx : a.eval x = cx at hBas
  have hsub : ∀ hv : Value, Compat C ⟨C.w, C.D, fun id => if id = C.g then hv else C.η id, C.g + 1⟩ (fun x => ∃ t, F1 t x) := fun hv => ⟨Nat.le_succ _, fun id hid => by simp only; rw [if_neg (by omega)], fun _ _ => rfl, fun _ _ h => ⟨rfl, h⟩⟩
  rcases hBas.form with ⟨rfl, rfl, hF0⟩ | ⟨b, cap, e, cur, Fc, rfl, hcap, hmax, hb, hcur, hone, hcell, hF, hFd, hself⟩
  · have hn0 : n = 0 := by simpa using hle
    subst hn0
    have hrun := run_cut (P := P) hs C.w none 0 0 0 0 none (some (.int k (0 : Nat))) (.inl ⟨rfl, rfl⟩) (.inr ⟨k, rfl⟩) (Nat.le_refl _) (Nat.le_refl _)
    refine wp_value (cv := .slice none 0 0) (w' := C.w) (by simp [execOp, ho, hcx, hh.isInt] at hrun ⊢; simp [hrun]) (hnx _ _ ?_)
    refine hst.step (C' := ⟨C.w, C.D, fun id => if id = C.g then .slice none 0 0 else C.η id, C.g + 1⟩) (fr2 := fr1.fresh 1) hm rfl (hsub _) (fun x hx _ => hx) (Fv' := fun _ => False) (.ownNil C.g sz (Nat.lt_succ_self _) (by simp)) (fun _ h => h.elim) (fun _ h => h.elim) hst.lt (.refl _ _) rfl rfl (by show fr1.g + 1 = C.g + 1; rw [hg]) (by rw [← hg]; simpa using hd)
  · have hrun := run_cut (P := P) hs C.w (some ⟨b, 0, none⟩) rows.length cap 0 n none (some (.int k n)) (.inl ⟨rfl, rfl⟩) (.inr ⟨k, rfl⟩) (Nat.zero_le _) (by omega)
    have hrun' : (Instr.sliceAt t (.slice (some ⟨b, 0, none⟩) rows.length cap) none (some (.int k n)) none).run P C.w = .ok (.slice (some ⟨b, 0, none⟩) n cap) C.w := by
      rw [hrun]
      by_cases h0 : cap = 0
      · simp [h0]
      · simp [h0, Addr.add_lit]
    refine wp_value (cv := .slice (some ⟨b, 0, none⟩) n cap) (w' := C.w) (by simp [execOp, ho, hcx, hh.isInt, hrun']) (hnx _ _ ?_)
    let C' : Cx := ⟨C.w, C.D, fun id => if id = C.g then .slice (some ⟨b, 0, none⟩) n cap else C.η id, C.g + 1⟩
    have hct : ∀ j k v, cell (rows.take n) j k = some v → cell rows j k = some v := by
      intro j k v h
      unfold cell at h ⊢
      rw [List.getElem?_take] at h
      split at h
      · exact h
      · simp at h
    have hcts : ∀ j k, (cell (rows.take n) j k).isSome → (cell rows j k).isSome := fun j k h => by
      obtain ⟨v, hv⟩ := Option.isSome_iff_exists.1 h
      rw [hct j k v hv]; rfl
    have hFF : ∀ x, (x = b ∨ ∃ j k, (cell (rows.take n) j k).isSome ∧ Fc j k x) → Fs x := fun x hx => (hF x).2 (hx.imp id fun ⟨j, k, h1, h2⟩ => ⟨j, k, hcts j k h1, h2⟩)
    have hvr : VR C' (.own C.g sz (rows.take n)) (.slice (some ⟨b, 0, none⟩) n cap) (fun x => x = b ∨ ∃ j k, (cell (rows.take n) j k).isSome ∧ Fc j k x) := by
      refine .own C.g sz _ b n cap e cur (fun j k => cur.getD (j * sz + k) Go.undef) Fc _ (Nat.lt_succ_self _) (by simp [C']) (by simp; omega) (fun row hr => hBas.rows row (List.mem_of_mem_take hr)) (by omega) hmax hb hcur hone (fun j k v hj => ?_) (fun j k v hj => ?_) (fun x => Iff.rfl) (fun j k j' k' x h1 h2 => hFd j k j' k' x (hcts j k h1) (hcts j' k' h2)) (fun j k h1 => hself j k (hcts j k h1))
      · obtain ⟨cu, q1, _⟩ := hcell j k v (hct j k v hj)
        rw [q1, getD_at q1]
      · obtain ⟨cu, q1, q2⟩ := hcell j k v (hct j k v hj)
        rw [getD_at q1]
        exact q2.mono ⟨Nat.le_succ _, fun id hid => by simp only [C']; rw [if_neg (by omega)], fun _ _ => rfl, fun _ _ h => ⟨rfl, h⟩⟩
    exact hst.step (C' := C') (fr2 := fr1.fresh 1) hm rfl (hsub _) (fun x hx _ => hx) hvr (fun x hx => hFD x (hFF x hx)) (fun x hx => .inl (hFs x (hFF x hx))) hst.lt (.refl _ _) rfl rfl (by show fr1.g + 1 = C.g + 1; rw [hg]) (by rw [← hg]; exact hd)
end
end Go.Proofs.Ytgoajlgkbcongaa.Vm
end
section
set_option linter.unusedVariables false
set_option linter.unusedSimpArgs false
namespace Go.Proofs.Ytgoajlgkbcongaa.Vm
open Go Go.RowKit
/-- From here on: an exit, and a frame that tells the end. -/
def Out (K : Base) (Q : Exit → Fr → Prop) (e : Exit) (a : Act) (w : World) : Prop := ∃ fr, Q e fr ∧ St K fr a w
def AW (P : Program) (K : Base) (c : Code) (fr : Fr) (Q : Exit → Fr → Prop) : Prop :=
  ∀ a w, St K fr a w → c.wp P (Out K Q) a w
/-- The operations of a region, one behind the other. -/
def LW (P : Program) (K : Base) (all : Array Oper) (l : List Oper) (fr : Fr) (Q : Exit → Fr → Prop) : Prop :=
  ∀ a w, St K fr a w → wpList P all (Out K Q) l a w
def thenQ (R : Fr → Prop) (Q : Exit → Fr → Prop) : Exit → Fr → Prop
  | .normal, fr => R fr
  | e, fr => Q e fr
def blockQ (id : Nat) (Q : Exit → Fr → Prop) : Exit → Fr → Prop
  | .exit id', fr => if id' = id then Q .normal fr else Q (.exit id') fr
  | e, fr => Q e fr
section
variable {P : Program} {K : Base} {fr fr' : Fr} {Q : Exit → Fr → Prop}
theorem AW.mono {c : Code} {Q' : Exit → Fr → Prop} (h : AW P K c fr Q) (hq : ∀ e f, Q e f → Q' e f) : AW P K c fr Q' :=
  fun a w hs => wp_mono (h a w hs) fun e a w ⟨f, h1, h2⟩ => ⟨f, hq _ _ h1, h2⟩
theorem AW.skip (h : Q .normal fr) : AW P K .skip fr Q := fun a w hs => wp_skip ⟨fr, h, hs⟩
theorem AW.label {l : Nat} (h : Q .normal fr) : AW P K (.label l) fr Q := fun a w hs => wp_label ⟨fr, h, hs⟩
theorem AW.exit {id : Nat} (h : Q (.exit id) fr) : AW P K (.exit id) fr Q := fun a w hs => wp_exit ⟨fr, h, hs⟩
theorem AW.goto {l : Nat} (h : Q (.goto l) fr) : AW P K (.goto l) fr Q := fun a w hs => wp_goto ⟨fr, h, hs⟩
theorem AW.ret (h : Q .ret fr) : AW P K .ret fr Q := fun a w hs => wp_ret ⟨fr, h, hs⟩
theorem AW.seq {x y : Code} (h : AW P K x fr (thenQ (fun f => AW P K y f Q) Q)) : AW P K (.seq x y) fr Q := by
  intro a w hs
  refine wp_seq (wp_mono (h a w hs) ?_)
  rintro e a' w' ⟨f, h1, h2⟩
  cases e with
  | normal => exact h1 a' w' h2
  | exit id => exact ⟨f, h1, h2⟩
  | goto l => exact ⟨f, h1, h2⟩
  | ret => exact ⟨f, h1, h2⟩
  | panic ch => exact ⟨f, h1, h2⟩
  | outgrown => exact ⟨f, h1, h2⟩
theorem AW.cond {c : Operand} {x y : Code} {b : Bool} (hc : fr.ev c = .bool b) (h1 : b = true → AW P K x fr Q) (h2 : b = false → AW P K y fr Q) : AW P K (.cond c x y) fr Q := by
  intro a w hs
  obtain ⟨C, F, hs'⟩ := id hs
  have hv := hs'.ev c
  rw [hc] at hv
  refine wp_cond_split (t := b) hv.isBool (fun e => h1 e a w hs) (fun e => h2 e a w hs)
theorem AW.block {id : Nat} {c : Code} (h : AW P K c fr (blockQ id Q)) : AW P K (.block id c) fr Q := by
  intro a w hs
  refine wp_block (wp_mono (h a w hs) ?_)
  rintro e a' w' ⟨f, h1, h2⟩
  cases e with
  | exit id' =>
    simp only [blockQ] at h1
    simp only [Exit.inBlock]
    by_cases e : id' = id
    · rw [if_pos e] at h1 ⊢; exact ⟨f, h1, h2⟩
    · rw [if_neg e] at h1 ⊢; exact ⟨f, h1, h2⟩
  | normal => exact ⟨f, h1, h2⟩
  | goto l => exact ⟨f, h1, h2⟩
  | ret => exact ⟨f, h1, h2⟩
  | panic ch => exact ⟨f, h1, h2⟩
  | outgrown => exact ⟨f, h1, h2⟩
theorem AW.loop {c : Code} (I : Nat → Fr → Prop) (n : Nat) (h0 : I n fr) (round : ∀ m f, I m f → AW P K c f (thenQ (fun f' => ∃ m', m' < m ∧ I m' f') Q)) : AW P K (.loop c) fr Q := by
  intro a w hs
  refine wp_loop_ghost (fun m a w => ∃ f, I m f ∧ St K f a w) n ⟨fr, h0, hs⟩ ?_
  rintro m a w ⟨f, hI, hs⟩
  refine wp_mono (round m f hI a w hs) ?_
  rintro e a' w' ⟨f', h1, h2⟩
  cases e with
  | normal => obtain ⟨m', hlt, hI'⟩ := h1; exact ⟨m', hlt, f', hI', h2⟩
  | exit id => exact ⟨f', h1, h2⟩
  | goto l => exact ⟨f', h1, h2⟩
  | ret => exact ⟨f', h1, h2⟩
  | panic ch => exact ⟨f', h1, h2⟩
  | outgrown => exact ⟨f', h1, h2⟩
theorem AW.region {id : Nat} {ops : Array Oper} (h : LW P K ops ops.toList fr Q) : AW P K (.region id ops false) fr Q :=
  fun a w hs => wp_region_list (h a w hs)
theorem LW.nil {all : Array Oper} (h : Q .normal fr) : LW P K all [] fr Q := fun a w hs => ⟨fr, h, hs⟩
theorem LW.cons {all : Array Oper} {o : Oper} {l : List Oper} (hg : o.guard = none) (ho : OpS P K o fr fr') (h : LW P K all l fr' Q) : LW P K all (o :: l) fr Q := by
  intro a w hs
  unfold wpList
  have : Region.wanted o (yielded all a.tmps) = true := by unfold Region.wanted; rw [hg]
  rw [this, if_pos rfl]
  exact .inl (ho a w hs _ _ fun a' w' hs' => h a' w' hs')
theorem FZ.skip (w : World) (D : FP) : FZ w D (.tup []) Go.undef := .tup [] #[] rfl (fun k v cv h => by simp at h)
theorem St.undef {a : Act} {w : World} {d : Option Tmp} (hs : St K fr a w) (hd : fr.dst d (.tup []) = some fr') : St K fr' (a.put d Go.undef) w := by
  obtain ⟨C, F, hs⟩ := hs
  exact StC.put hs.eta hs.hw hs.hg hs.rel (.lit _ _ (.skip _ _)) (fun _ _ _ h => h) (fun _ h => h.elim) hs.lt hs.new (fun _ h => h.elim) (fun x hx => ⟨(hs.avoid x hx).1, (hs.avoid x hx).2, fun h => h⟩) hs.fram hs.defers hs.size hd
theorem yielded_of {all : Array Oper} {a : Act} {w : World} {j g : Nat} {b : Bool} (hj : (all[j]?).bind (·.dst) = some g) (hs : St K fr a w) (hb : fr.s g = .bool b) : yielded all a.tmps j = some b := by
  obtain ⟨C, F, hs⟩ := hs
  have h := hs.rel.vr g
  simp only [hb] at h
  have h := h.isBool
  unfold yielded
  rw [hj]
  simp only [Option.bind_some]
  rw [Array.getD_eq_getD_getElem?] at h
  cases hq : a.tmps[g]? with
  | none => rw [hq] at h; simp only [Option.getD_none] at h; cases h
  | some v => rw [hq] at h; simp only [Option.getD_some] at h; rw [h]
theorem LW.want {all : Array Oper} {o : Oper} {l : List Oper} {j g : Nat} {b : Bool} (hg : o.guard = some (j, b)) (hj : (all[j]?).bind (·.dst) = some g) (hb : fr.s g = .bool b) (ho : OpS P K o fr fr') (h : LW P K all l fr' Q) : LW P K all (o :: l) fr Q := by
  intro a w hs
  unfold wpList
  have : Region.wanted o (yielded all a.tmps) = true := by unfold Region.wanted; rw [hg]; simp only [yielded_of hj hs hb]; simp
  rw [this, if_pos rfl]
  exact .inl (ho a w hs _ _ fun a' w' hs' => h a' w' hs')
theorem LW.unwant {all : Array Oper} {o : Oper} {l : List Oper} {j g : Nat} {b : Bool} (hg : o.guard = some (j, !b)) (hj : (all[j]?).bind (·.dst) = some g) (hb : fr.s g = .bool b) (hd : fr.dst o.dst (.tup []) = some fr') (h : LW P K all l fr' Q) : LW P K all (o :: l) fr Q := by
  intro a w hs
  unfold wpList
  have : Region.wanted o (yielded all a.tmps) = false := by unfold Region.wanted; rw [hg]; simp only [yielded_of hj hs hb]; cases b <;> rfl
  rw [this, if_neg (by simp)]
  exact h _ _ (hs.undef hd)
theorem yielded_none {all : Array Oper} {a : Act} {w : World} {j g : Nat} (hj : (all[j]?).bind (·.dst) = some g) (hs : St K fr a w) (hb : fr.s g = .tup []) : yielded all a.tmps j = none := by
  obtain ⟨C, F, hs⟩ := hs
  have h := hs.rel.vr g
  simp only [hb] at h
  have h : ∃ cvs : Array Value, a.tmps.getD g Go.undef = .tuple cvs := by
    generalize a.tmps.getD g Go.undef = cg at h
    generalize F g = Fg at h
    cases h with
    | lit v cv h => cases h with
      | tup vs cvs hn hv => exact ⟨cvs, rfl⟩
    | tup vs cvs Fc F hn hv hF hdis => exact ⟨cvs, rfl⟩
  obtain ⟨cvs, h⟩ := h
  unfold yielded
  rw [hj]
  simp only [Option.bind_some]
  rw [Array.getD_eq_getD_getElem?] at h
  cases hq : a.tmps[g]? with
  | none => rfl
  | some v => rw [hq] at h; simp only [Option.getD_some] at h; rw [h]
/-- An operation whose guard itself was not wanted. -/
theorem LW.unwant0 {all : Array Oper} {o : Oper} {l : List Oper} {j g : Nat} {b : Bool} (hg : o.guard = some (j, b)) (hj : (all[j]?).bind (·.dst) = some g) (hb : fr.s g = .tup []) (hd : fr.dst o.dst (.tup []) = some fr') (h : LW P K all l fr' Q) : LW P K all (o :: l) fr Q := by
  intro a w hs
  unfold wpList
  have : Region.wanted o (yielded all a.tmps) = false := by unfold Region.wanted; rw [hg]; simp only [yielded_none hj hs hb]; rfl
  rw [this, if_neg (by simp)]
  exact h _ _ (hs.undef hd)
/-- A frame that says less. -/
structure Fr.Le (fr fr' : Fr) : Prop where
  n : fr'.n = fr.n
  g : fr'.g = fr.g
  s : ∀ t, fr'.s t = fr.s t ∨ fr'.s t = .undef
theorem Fr.Le.refl (fr : Fr) : fr.Le fr := ⟨rfl, rfl, fun _ => .inl rfl⟩
theorem StC.weak {a : Act} {w : World} {C : Cx} {F : Nat → FP} (h : fr.Le fr') (hs : StC K fr a w C F) : ∃ F', (∀ t x, F' t x → F t x) ∧ StC K fr' a w C F' := by
  classical
  refine ⟨fun t x => F t x ∧ fr'.s t = fr.s t, fun t x h => h.1, hs.hw, hs.hg.trans h.g.symm, ⟨fun t => ?_, fun t t' x h1 h2 => hs.rel.dis t t' x h1.1 h2.1, fun t x h1 => hs.rel.sub t x h1.1⟩, hs.lt, fun t x h1 => hs.new t x h1.1, fun x hx => ⟨(hs.avoid x hx).1, fun t h1 => (hs.avoid x hx).2 t h1.1⟩, hs.fram, hs.defers, hs.size.trans h.n.symm, hs.eta⟩
  by_cases e : fr'.s t = fr.s t
  · have := hs.rel.vr t
    rw [← e] at this
    exact this.fp fun x => ⟨fun h => h.1, fun h => ⟨h, e⟩⟩
  · have e0 := (h.s t).resolve_left e
    rw [e0]
    exact (VR.lit _ _ (.undef _)).fp fun x => ⟨fun h => e (e0.trans h.2), fun h => h.elim⟩
theorem St.weak {a : Act} {w : World} (h : fr.Le fr') (hs : St K fr a w) : St K fr' a w := by
  obtain ⟨C, F, hs⟩ := hs
  obtain ⟨F', _, hs'⟩ := hs.weak h
  exact ⟨C, F', hs'⟩
theorem AW.weak {c : Code} (hl : fr.Le fr') (h : AW P K c fr' Q) : AW P K c fr Q := fun a w hs => h a w (hs.weak hl)
theorem LW.weak {all : Array Oper} {l : List Oper} (hl : fr.Le fr') (h : LW P K all l fr' Q) : LW P K all l fr Q := fun a w hs => h a w (hs.weak hl)
/-- A world that differs in the count of draws. -/
theorem StC.drew {a : Act} {w : World} {C : Cx} {F : Nat → FP} (hs : StC K fr a w C F) (n : Nat) : StC K fr a { w with drawn := n } { C with w := { w with drawn := n } } F := by
  have hc : ∀ F, Compat C { C with w := { w with drawn := n } } F := fun F => ⟨Nat.le_refl _, fun _ _ => rfl, fun _ _ => by rw [hs.hw], fun _ _ h => ⟨by rw [hs.hw], h⟩⟩
  exact ⟨rfl, hs.hg, ⟨fun t => (hs.rel.vr t).mono (hc _), hs.rel.dis, hs.rel.sub⟩, hs.lt, hs.new, hs.avoid, ⟨hs.fram.os, hs.fram.tape, hs.fram.output, hs.fram.size, hs.fram.block⟩, hs.defers, hs.size, hs.eta⟩
theorem St.drew {a : Act} {w : World} (hs : St K fr a w) (n : Nat) : St K fr a { w with drawn := n } := by
  obtain ⟨C, F, hs⟩ := hs
  exact ⟨_, F, hs.drew n⟩
end
theorem Fram.compat {C : Cx} {w w' : World} (h : Fram w (fun _ => False) w') (hw : C.w = w) (lt : ∀ x, C.D x → x < w.heap.size) {F : FP} (hF : ∀ x, F x → C.D x) : Compat C { C with w := w' } F :=
  ⟨Nat.le_refl _, fun _ _ => rfl, fun x hx => by rw [hw]; exact h.block x (lt x (hF x hx)) id, fun x hx hD => ⟨by rw [hw]; exact h.block x (by rw [← hw]; exact hx) id, hD⟩⟩
section
variable {P : Program} {K : Base} {fr fr' fr2 : Fr} {o : Oper} {v : AV}
theorem Quiet.step (h : Quiet P o fr v) (hl : fr2.Le fr) (hd : fr2.dst o.dst v = some fr') : OpS P K o fr2 fr' := by
  rintro a w ⟨C, F, hs⟩ next Q hn
  obtain ⟨F', _, hs'⟩ := hs.weak hl
  refine h K a w C F' hs' next Q fun cv w' hf hv => hn _ _ ?_
  have hc : ∀ {F : FP}, (∀ x, F x → C.D x) → Compat C { C with w := w' } F := fun hF => hf.compat hs.hw hs.lt hF
  exact StC.put (C' := { C with w := w' }) hs.eta rfl hs.hg ⟨fun t => (hs.rel.vr t).mono (hc (hs.rel.sub t)), hs.rel.dis, hs.rel.sub⟩ hv (fun _ _ _ h => h) (fun _ h => h.elim) (fun x hx => Nat.lt_of_lt_of_le (hs.lt x hx) hf.size) hs.new (fun _ h => h.elim)
    (fun x hx => ⟨(hs.avoid x hx).1, (hs.avoid x hx).2, fun h => h⟩) ⟨hf.os.trans hs.fram.os, hf.tape.trans hs.fram.tape, hf.output.trans hs.fram.output, Nat.le_trans hs.fram.size hf.size, fun x hx hD => (hf.block x (Nat.lt_of_lt_of_le hx hs.fram.size) id).trans (hs.fram.block x hx hD)⟩ hs.defers hs.size hd
end
end Go.Proofs.Ytgoajlgkbcongaa.Vm
end
section
set_option linter.unusedVariables false
set_option linter.unusedSimpArgs false
namespace Go.Proofs.Ytgoajlgkbcongaa.Vm
open Go Go.RowKit
/-- The edges of operation i that hold under any mode. -/
def preds (ops : Array Oper) (i : Nat) : List Nat :=
  match ops[i]? with
  | some o => (o.after.toList.filter (Region.binds .any)).map (·.on)
  | none => []
def headSlots (ops : Array Oper) (n : Nat) : List Nat := (ops.toList.take n).filterMap (·.dst)
/-- What a region that draws is asked: A: for each operation the ones that surely came ahead of it. -/
def drawB (ops : Array Oper) (n : Nat) (A : List (List Nat)) : Bool :=
  decide (n ≤ ops.size) && decide (A.length = ops.size) &&
  (List.range n).all (fun i => match ops[i]? with
    | some o => match o.dst with
      | some d => decide ((headSlots ops n)[i]? = some d)
      | none => false
    | none => false) &&
  decide ((headSlots ops n).length = n) && decide (headSlots ops n).Nodup &&
  (List.range ops.size).all (fun i =>
    (preds ops i).all (fun e => decide (e < i)) &&
    ((A.getD i []).all fun j => decide (j < i) && (preds ops i).any fun e => e == j || (A.getD e []).contains j) &&
    (decide (i < n) || (List.range i).all fun j => (A.getD i []).contains j))
/-- The frame where of the head slots just those in S are told. -/
def Fr.see (base : Fr) (ds : List Nat) (vs : List AV) (S : List Nat) : Fr :=
  ⟨fun t => if ds.contains t then (if S.contains (ds.idxOf t) then vs.getD (ds.idxOf t) .undef else .undef) else base.s t, base.g, base.n⟩
theorem Fr.see_le {base : Fr} {ds : List Nat} {vs : List AV} {S S' : List Nat} (h : ∀ j, j ∈ S' → j ∈ S) : (base.see ds vs S).Le (base.see ds vs S') := by
  refine ⟨rfl, rfl, fun t => ?_⟩
  simp only [Fr.see]
  by_cases h1 : ds.contains t = true
  · simp only [h1, if_true]
    by_cases h2 : S'.contains (ds.idxOf t) = true
    · have h3 : S.contains (ds.idxOf t) = true := by simpa using h _ (by simpa using h2)
      simp only [h2, h3, if_true]; exact .inl trivial
    · simp only [h2]; exact .inr (by simp)
  · simp only [h1]; exact .inl rfl
theorem Fr.le_see {base : Fr} {ds : List Nat} {vs : List AV} : base.Le (base.see ds vs []) := by
  refine ⟨rfl, rfl, fun t => ?_⟩
  simp only [Fr.see]
  by_cases h1 : ds.contains t = true
  · simp only [h1, if_true]; exact .inr (by simp)
  · simp only [h1]; exact .inl rfl
/-- A head: quiet in the frame that tells just what surely came ahead of it. -/
def HeadOK (P : Program) (ops : Array Oper) (f : Fr) (o : Oper) (v : AV) : Prop :=
  match o.guard with
  | none => Quiet P o f v
  | some (j, want) => ∃ g, (ops[j]?).bind (·.dst) = some g ∧ ((∃ b, f.s g = .bool b ∧ (b = want → Quiet P o f v) ∧ (b ≠ want → v = .tup [])) ∨ (f.s g = .tup [] ∧ v = .tup []))
section
variable {P : Program} {K : Base} {ops : Array Oper} {n : Nat} {A : List (List Nat)} {base : Fr} {vs : List AV}
structure DrawOK (ops : Array Oper) (n : Nat) (A : List (List Nat)) : Prop where
  le : n ≤ ops.size
  dst : ∀ i, i < n → ∃ o d, ops[i]? = some o ∧ o.dst = some d ∧ (headSlots ops n)[i]? = some d
  len : (headSlots ops n).length = n
  nodup : (headSlots ops n).Nodup
  acyc : ∀ i, i < ops.size → ∀ e ∈ preds ops i, e < i
  anc : ∀ i, i < ops.size → ∀ j ∈ A.getD i [], j < i ∧ ∃ e ∈ preds ops i, e = j ∨ j ∈ A.getD e []
  tail : ∀ i, i < ops.size → n ≤ i → ∀ j, j < i → j ∈ A.getD i []
theorem DrawOK.of (h : drawB ops n A = true) : DrawOK ops n A := by
  simp only [drawB, Bool.and_eq_true, decide_eq_true_eq, List.all_eq_true, List.mem_range, Bool.or_eq_true, List.any_eq_true, beq_iff_eq, List.contains_iff_mem] at h
  obtain ⟨⟨⟨⟨⟨h1, h2⟩, h3⟩, h4⟩, h5⟩, h6⟩ := h
  refine ⟨h1, fun i hi => ?_, h4, h5, fun i hi e he => (h6 i hi).1.1 e he, fun i hi j hj => ⟨((h6 i hi).1.2 j hj).1, ?_⟩, fun i hi hn j hj => ?_⟩
  · have := h3 i hi
    cases ho : ops[i]? with
    | none => simp [ho] at this
    | some o =>
      simp only [ho] at this
      cases hd : o.dst with
      | none => simp [hd] at this
      | some d => simp only [hd, decide_eq_true_eq] at this; exact ⟨o, d, rfl, hd, this⟩
  · obtain ⟨e, he, hh⟩ := ((h6 i hi).1.2 j hj).2
    exact ⟨e, he, hh⟩
  · exact (h6 i hi).2.resolve_left (by omega) j hj
theorem mem_ready' {listed : Array Bool} {i : Nat} : i ∈ Region.ready .any ops listed ↔ i < ops.size ∧ listed.getD i true = false ∧ ∀ e ∈ preds ops i, listed.getD e false = true := by
  unfold Region.ready preds
  simp only [List.mem_filter, List.mem_range, Bool.and_eq_true, Bool.not_eq_true']
  constructor
  · rintro ⟨h1, h2, h3⟩
    refine ⟨h1, h2, fun e he => ?_⟩
    rw [Array.getElem?_eq_getElem h1] at h3 he
    simp only [Option.map_some, Option.getD_some, Array.all_eq_true] at h3
    simp only [List.mem_map, List.mem_filter] at he
    obtain ⟨x, ⟨hx1, hx2⟩, rfl⟩ := he
    obtain ⟨k, hk, rfl⟩ := List.mem_iff_getElem.1 hx1
    have := h3 k (by simpa using hk)
    simp only [Array.getElem_toList] at hx2
    rw [hx2] at this
    simpa using this
  · rintro ⟨h1, h2, h3⟩
    refine ⟨h1, h2, ?_⟩
    rw [Array.getElem?_eq_getElem h1] at h3 ⊢
    simp only [Option.map_some, Option.getD_some, Array.all_eq_true]
    intro k hk
    by_cases hb : Region.binds .any (ops[i].after[k]) = true
    · rw [hb, h3 _ (List.mem_map.2 ⟨ops[i].after[k], List.mem_filter.2 ⟨by simp, hb⟩, rfl⟩)]; rfl
    · simp [hb]
/-- What is listed, as a list. -/
def listedL (listed : Array Bool) : List Nat := (List.range listed.size).filter fun i => listed.getD i false
theorem mem_listedL {listed : Array Bool} {i : Nat} : i ∈ listedL listed ↔ listed.getD i false = true := by
  unfold listedL
  simp only [List.mem_filter, List.mem_range]
  refine ⟨fun h => h.2, fun h => ⟨?_, h⟩⟩
  rcases Nat.lt_or_ge i listed.size with h1 | h1
  · exact h1
  · simp [Array.getD, Nat.not_lt.2 h1] at h
structure DrawInv (ops : Array Oper) (A : List (List Nat)) (listed : Array Bool) : Prop where
  size : listed.size = ops.size
  down : ∀ i, listed.getD i false = true → ∀ j ∈ A.getD i [], listed.getD j false = true
theorem getD_both' {listed : Array Bool} {i : Nat} (h : i < listed.size) : listed.getD i true = listed.getD i false := by simp [Array.getD, h]
theorem getD_put {listed : Array Bool} {i j : Nat} (hi : i < listed.size) : (listed.setIfInBounds i true).getD j false = if j = i then true else listed.getD j false := by
  simp only [Array.getD_eq_getD_getElem?, Array.getElem?_setIfInBounds]
  by_cases e : i = j
  · subst e; simp [hi]
  · simp [e, Ne.symm e]
theorem DrawInv.ready_anc (H : DrawOK ops n A) {listed : Array Bool} (hI : DrawInv ops A listed) {i : Nat} (hi : i ∈ Region.ready .any ops listed) : ∀ j ∈ A.getD i [], listed.getD j false = true := by
  obtain ⟨h1, h2, h3⟩ := mem_ready'.1 hi
  intro j hj
  obtain ⟨_, e, he, hh⟩ := H.anc i h1 j hj
  rcases hh with rfl | hh
  · exact h3 _ he
  · exact hI.down e (h3 e he) j hh
theorem DrawInv.put (H : DrawOK ops n A) {listed : Array Bool} (hI : DrawInv ops A listed) {i : Nat} (hi : i ∈ Region.ready .any ops listed) : DrawInv ops A (listed.setIfInBounds i true) := by
  have hi' : i < listed.size := by rw [hI.size]; exact (mem_ready'.1 hi).1
  refine ⟨by simp [hI.size], fun k hk j hj => ?_⟩
  rw [getD_put hi'] at hk ⊢
  by_cases e : k = i
  · subst e
    by_cases e' : j = k
    · simp [e']
    · rw [if_neg e']; exact hI.ready_anc H hi j hj
  · rw [if_neg e] at hk
    by_cases e' : j = i
    · simp [e']
    · rw [if_neg e']; exact hI.down k hk j hj
/-- If nothing is ready, everything is listed. -/
theorem DrawInv.none_ready (H : DrawOK ops n A) {listed : Array Bool} (hI : DrawInv ops A listed) (hr : Region.ready .any ops listed = []) : ∀ i, i < ops.size → listed.getD i false = true := by
  intro i
  induction i using Nat.strongRecOn with
  | _ i ih =>
    intro hi
    by_cases hl : listed.getD i false = true
    · exact hl
    · have : i ∈ Region.ready .any ops listed := mem_ready'.2 ⟨hi, by rw [getD_both' (by rw [hI.size]; exact hi)]; simpa using hl, fun e he => ih e (H.acyc i hi e he) (Nat.lt_trans (H.acyc i hi e he) hi)⟩
      rw [hr] at this
      cases this
/-- The tail: what is ready is one operation. -/
theorem tail_any (H : DrawOK ops n A) {Q : Exit → Act → World → Prop} : ∀ (l : List Oper) (k : Nat) (listed : Array Bool) (a : Act) (w : World), (∀ j, l[j]? = ops[k + j]?) → k + l.length = ops.size → n ≤ k → DrawInv ops A listed →
    (∀ i, i < ops.size → (listed.getD i false = true ↔ i < k)) → wpList P ops Q l a w → wpAny P .any ops Q l.length listed a w
  | [], k, listed, a, w, hl, hk, hn, hI, hall, h => by
    refine ⟨?_, h⟩
    refine List.eq_nil_iff_forall_not_mem.2 fun i hi => ?_
    obtain ⟨h1, h2, _⟩ := mem_ready'.1 hi
    rw [getD_both' (by rw [hI.size]; exact h1), (hall i h1).2 (by simp at hk; omega)] at h2
    cases h2
  | o :: l, k, listed, a, w, hl, hk, hn, hI, hall, h => by
    have h0 : ops[k]? = some o := by simpa using (hl 0).symm
    have hkk : k < ops.size := by simp only [List.length_cons] at hk; omega
    refine ⟨fun hr => ?_, fun i hi => ?_⟩
    · have := (hall k hkk).1 (hI.none_ready H hr k hkk)
      omega
    · obtain ⟨h1, h2, _⟩ := mem_ready'.1 hi
      rw [getD_both' (by rw [hI.size]; exact h1)] at h2
      have hge : ¬ i < k := fun hlt => by rw [(hall i h1).2 hlt] at h2; cases h2
      have hle : ¬ k < i := fun hlt => by
        have := (hall k hkk).1 (hI.ready_anc H hi k (H.tail i h1 (by omega) k hlt))
        omega
      have : i = k := by omega
      subst this
      have hw : wpOp P ops Q i (wpList P ops Q l) a w := by unfold wpOp; simp only [h0]; exact h
      refine wpOp_mono (fun a' w' h' => ?_) hw
      refine tail_any H l (i + 1) _ a' w' (fun j => ?_) (by simp only [List.length_cons] at hk; omega) (by omega) (hI.put H hi) (fun j hj => ?_) h'
      · have := hl (j + 1)
        simpa [Nat.add_assoc, Nat.add_comm 1 j] using this
      · rw [getD_put (by rw [hI.size]; exact hkk)]
        by_cases e : j = i
        · simp [e]
        · rw [if_neg e, hall j hj]; omega
theorem see_put {ds : List Nat} {L : List Nat} {L' : List Nat} {i d : Nat} {v : AV} (hnd : ds.Nodup) (hdi : ds[i]? = some d) (hv : vs.getD i .undef = v) (hd : d < base.n) (hL : ∀ j, j < ds.length → (j ∈ L' ↔ j = i ∨ j ∈ L)) :
    (base.see ds vs L).dst (some d) v = some (base.see ds vs L') := by
  have hlt : i < ds.length := (List.getElem?_eq_some_iff.1 hdi).1
  have hge : ds[i] = d := (List.getElem?_eq_some_iff.1 hdi).2
  have hidx : ds.idxOf d = i := by rw [← hge]; exact hnd.idxOf_getElem i hlt
  have hmem : d ∈ ds := by rw [← hge]; exact List.getElem_mem hlt
  show (if d < base.n then some ((base.see ds vs L).upd d v) else none) = _
  rw [if_pos hd]
  refine congrArg some ?_
  unfold Fr.upd Fr.see
  simp only [Fr.mk.injEq, and_true]
  funext t
  by_cases e : t = d
  · subst e
    have h1 : ds.contains t = true := by simpa using hmem
    have h2 : L'.contains i = true := by simpa using (hL i hlt).2 (.inl rfl)
    simp only [if_true, h1, hidx, h2, hv]
  · simp only [if_neg e]
    by_cases h1 : ds.contains t = true
    · simp only [h1, if_true]
      have hm : t ∈ ds := by simpa using h1
      have hne : ds.idxOf t ≠ i := fun h => e (by
        have := List.getElem_idxOf (List.idxOf_lt_length_iff.2 hm)
        rw [← this]; simp only [h]; exact hge)
      have h2 : L'.contains (ds.idxOf t) = L.contains (ds.idxOf t) := by
        have := hL (ds.idxOf t) (List.idxOf_lt_length_iff.2 hm)
        rw [Bool.eq_iff_iff]
        simp only [List.contains_iff_mem, this]
        exact ⟨fun h => h.resolve_left hne, .inr⟩
      rw [h2]
    · simp only [h1]; rfl
/-- A region that draws its order. -/
theorem AW.draw {id : Nat} {Q : Exit → Fr → Prop} (hm : P.follows .mixedOrders = true) (hB : drawB ops n A = true) (hd : ∀ d ∈ headSlots ops n, d < base.n)
    (hq : ∀ i o, i < n → ops[i]? = some o → HeadOK P ops (base.see (headSlots ops n) vs (A.getD i [])) o (vs.getD i .undef))
    (ht : LW P K ops (ops.toList.drop n) (base.see (headSlots ops n) vs (List.range n)) Q) : AW P K (.region id ops true) base Q := by
  have H := DrawOK.of hB
  intro a w hs
  refine wp_region_any hm ?_
  have hs := (hs.drew (w.drawn + 1)).weak (Fr.le_see (ds := headSlots ops n) (vs := vs))
  have key : ∀ (m : Nat) (listed : Array Bool) (a : Act) (w : World), DrawInv ops A listed → (∀ i, n ≤ i → listed.getD i false = false) → ((List.range n).filter fun i => !listed.getD i false).length = m →
      St K (base.see (headSlots ops n) vs (listedL listed)) a w → wpAny P .any ops (Out K Q) (m + (ops.size - n)) listed a w := by
    intro m
    induction m with
    | zero =>
      intro listed a w hI htl hc hs
      have hall : ∀ i, i < n → listed.getD i false = true := fun i hi => by
        have := List.length_eq_zero_iff.1 hc
        have h2 : i ∉ (List.range n).filter fun i => !listed.getD i false := by rw [this]; simp
        simpa [hi] using h2
      have := tail_any (P := P) H (Q := Out K Q) (ops.toList.drop n) n listed a w (fun j => by simp [List.getElem?_drop]) (by simp; have := H.le; omega) (Nat.le_refl _) hI (fun i hi => ?_) (ht a w (hs.weak (Fr.see_le fun j hj => mem_listedL.2 (hall j (by simpa using hj)))))
      · simpa using this
      · refine ⟨fun h => ?_, hall i⟩
        rcases Nat.lt_or_ge i n with h1 | h1
        · exact h1
        · rw [htl i h1] at h; cases h
    | succ m ih =>
      intro listed a w hI htl hc hs
      rw [show m + 1 + (ops.size - n) = (m + (ops.size - n)) + 1 by omega]
      obtain ⟨k, hk⟩ : ∃ k, k ∈ (List.range n).filter fun i => !listed.getD i false := by
        cases hl : (List.range n).filter fun i => !listed.getD i false with
        | nil => rw [hl] at hc; cases hc
        | cons x xs => exact ⟨x, by simp⟩
      simp only [List.mem_filter, List.mem_range, Bool.not_eq_true'] at hk
      refine ⟨fun hr => ?_, fun i hi => ?_⟩
      · have := hI.none_ready H hr k (Nat.lt_of_lt_of_le hk.1 H.le)
        rw [hk.2] at this
        cases this
      · obtain ⟨h1, h2, h3⟩ := mem_ready'.1 hi
        rw [getD_both' (by rw [hI.size]; exact h1)] at h2
        have hin : i < n := by
          rcases Nat.lt_or_ge i n with h | h
          · exact h
          · have := hI.ready_anc H hi k (H.tail i h1 h k (by omega))
            rw [hk.2] at this
            cases this
        obtain ⟨o, d, ho, hod, hdi⟩ := H.dst i hin
        have hdn : d < base.n := hd d (List.mem_of_getElem? hdi)
        have hh := hq i o hin ho
        have hle : (base.see (headSlots ops n) vs (listedL listed)).Le (base.see (headSlots ops n) vs (A.getD i [])) := Fr.see_le fun j hj => mem_listedL.2 (hI.ready_anc H hi j hj)
        have hput : (base.see (headSlots ops n) vs (listedL listed)).dst o.dst (vs.getD i .undef) = some (base.see (headSlots ops n) vs (listedL (listed.setIfInBounds i true))) := by
          rw [hod]
          refine see_put H.nodup hdi rfl hdn fun j hj => ?_
          rw [mem_listedL, mem_listedL, getD_put (by rw [hI.size]; exact h1)]
          by_cases e : j = i
          · simp [e]
          · simp [e]
        have hI' := hI.put H hi
        have htl' : ∀ j, n ≤ j → (listed.setIfInBounds i true).getD j false = false := fun j hj => by
          rw [getD_put (by rw [hI.size]; exact h1), if_neg (by omega)]; exact htl j hj
        have hc' : ((List.range n).filter fun j => !(listed.setIfInBounds i true).getD j false).length = m := by
          have : ((List.range n).filter fun j => !(listed.setIfInBounds i true).getD j false) = ((List.range n).filter fun j => !listed.getD j false).erase i := by
            rw [List.Nodup.erase_eq_filter (List.Pairwise.filter _ List.nodup_range) i, List.filter_filter]
            refine List.filter_congr fun j _ => ?_
            rw [getD_put (by rw [hI.size]; exact h1)]
            by_cases e : j = i
            · simp [e]
            · simp [e]
          rw [this, List.length_erase_of_mem (by rw [List.mem_filter, List.mem_range, h2]; exact ⟨hin, rfl⟩), hc]
          omega
        unfold wpOp
        simp only [ho]
        unfold HeadOK at hh
        cases hg : o.guard with
        | none =>
          simp only [hg] at hh
          have hw : Region.wanted o (yielded ops a.tmps) = true := by unfold Region.wanted; rw [hg]
          rw [hw, if_pos rfl]
          exact .inl (hh.step hle hput a w hs _ _ fun a' w' hs' => ih _ a' w' hI' htl' hc' hs')
        | some jw =>
          obtain ⟨j, want⟩ := jw
          simp only [hg] at hh
          obtain ⟨g, hj, hh⟩ := hh
          rcases hh with ⟨b, hgb, hyes, hno⟩ | ⟨hgb, hno⟩
          rotate_left
          · have hb : (base.see (headSlots ops n) vs (listedL listed)).s g = .tup [] := by
              rcases hle.s g with h | h
              · rw [← h, hgb]
              · rw [h] at hgb; cases hgb
            have hyi := yielded_none hj hs hb
            have hwv : Region.wanted o (yielded ops a.tmps) = false := by unfold Region.wanted; rw [hg]; simp only [hyi]; rfl
            rw [hwv, if_neg (by simp)]
            refine ih _ _ w hI' htl' hc' (hs.undef ?_)
            rw [← hno]; exact hput
          have hb : (base.see (headSlots ops n) vs (listedL listed)).s g = .bool b := by
            rcases hle.s g with h | h
            · rw [← h, hgb]
            · rw [h] at hgb; cases hgb
          have hyi := yielded_of hj hs hb
          have hwv : Region.wanted o (yielded ops a.tmps) = (b == want) := by unfold Region.wanted; rw [hg]; simp only [hyi]; cases b <;> cases want <;> rfl
          by_cases e : b = want
          · rw [hwv, e, beq_self_eq_true, if_pos rfl]
            exact .inl ((hyes e).step hle hput a w hs _ _ fun a' w' hs' => ih _ a' w' hI' htl' hc' hs')
          · rw [hwv, if_neg (by simpa using e)]
            refine ih _ _ w hI' htl' hc' (hs.undef ?_)
            rw [← hno e]; exact hput
  have := key n (Array.replicate ops.size false) a { w with drawn := w.drawn + 1 } ⟨by simp, fun i hi => by simp [Array.getD] at hi⟩ (fun i _ => by simp [Array.getD]) (by
    rw [List.filter_eq_self.2]
    · simp
    · intro i _; simp [Array.getD]) (by
    have : listedL (Array.replicate ops.size false) = [] := by
      unfold listedL
      refine List.filter_eq_nil_iff.2 fun i hi => ?_
      simp [Array.getD]
    rw [this]; exact hs)
  rwa [show n + (ops.size - n) = ops.size by have := H.le; omega] at this
end
end Go.Proofs.Ytgoajlgkbcongaa.Vm
end
section
set_option linter.unusedVariables false
set_option linter.unusedSimpArgs false
namespace Go.Proofs.Ytgoajlgkbcongaa.Vm
open Go Go.RowKit
/-- What comes back: a value, told in a context that goes on from the caller's. -/
def Ret (C : Cx) (R : AV → Prop) : Ending → World → Prop
  | .returned cv, w' => ∃ res C' Fv, R res ∧ C'.w = w' ∧ C.g ≤ C'.g ∧ (∀ id, id < C.g → C'.η id = C.η id) ∧ (∀ x, C'.D x ↔ C.D x ∨ Fv x) ∧ VR C' res cv Fv ∧ (∀ x, Fv x → C.w.heap.size ≤ x ∧ x < w'.heap.size) ∧ Fram C.w (fun _ => False) w'
  | _, _ => False
/-- A function, at arguments that nobody writes. -/
def Con (P : Program) (f : FuncId) (args : List AV) (R : AV → Prop) : Prop :=
  ∀ (C : Cx) (cargs : Array Value), (∀ x, C.D x → x < C.w.heap.size) → cargs.size = args.length → (∀ (i : Nat) (v : AV) (cv : Value), args[i]? = some v → cargs[i]? = some cv → FZ C.w C.D v cv) → Calls P f cargs C.w (Ret C R)
theorem Con.mono {P : Program} {f : FuncId} {args : List AV} {R R' : AV → Prop} (h : Con P f args R) (hR : ∀ v, R v → R' v) : Con P f args R' :=
  fun C cargs h1 h2 h3 => (h C cargs h1 h2 h3).mono fun e w' he => by
    cases e with
    | returned cv => obtain ⟨res, C', Fv, a, b⟩ := he; exact ⟨res, C', Fv, hR _ a, b⟩
    | panicked ch => exact he
    | outgrown => exact he
def Fr.start (args : List AV) (g n : Nat) : Fr := ⟨fun t => args.getD t .undef, g, n⟩
def outSlot : ResultVar → Nat
  | .tmp t => t
  | .cell a _ => a
def outV (P : Program) (fr : Fr) : ResultVar → Option AV
  | .tmp t => some (fr.s t)
  | .cell a t => match fr.s a with
    | .box _ cells => match shp P t with
      | some none => match cells with
        | [v] => some v
        | _ => none
      | some (some n) => if cells.length = n then some (.agg cells) else none
      | none => none
    | _ => none
def outL (P : Program) (fr : Fr) : List ResultVar → Option (List AV)
  | [] => some []
  | r :: rs => (outV P fr r).bind fun v => (outL P fr rs).bind fun vs => some (v :: vs)
def outR (P : Program) (fr : Fr) (rs : List ResultVar) : Option AV :=
  match rs with
  | [r] => outV P fr r
  | rs => if (rs.map outSlot).Nodup then (outL P fr rs).map .tup else none
section
variable {P : Program}
def resRun (tmps : Array Value) : ResultVar → Sem Value
  | .tmp t => pure (tmps.getD t Go.undef)
  | .cell a t => do loadVar t (← asAddr (tmps.getD a Go.undef))
theorem outV_sound {C : Cx} {fr : Fr} {tmps : Array Value} {F : Nat → FP} (h : Rel C fr (fun t => tmps.getD t Go.undef) F) {r : ResultVar} {v : AV} (ho : outV P fr r = some v) :
    ∃ cv Fv, (resRun tmps r).run P C.w = .ok cv C.w ∧ VR C v cv Fv ∧ ∀ x, Fv x → F (outSlot r) x := by
  cases r with
  | tmp t =>
    simp only [outV, Option.some.injEq] at ho
    subst ho
    exact ⟨_, F t, by simp [resRun], h.vr t, fun x hx => hx⟩
  | cell a t =>
    unfold outV at ho
    cases hs : fr.s a with
    | box id cells =>
      have hv := h.vr a
      simp only [hs] at ho hv
      generalize hcv : tmps.getD a Go.undef = ca at hv
      generalize hFa : F a = Fa at hv
      have hFs : ∀ x, Fa x → F (outSlot (.cell a t)) x := fun x hx => by rw [outSlot, hFa]; exact hx
      cases hv with
      | lit v cv h => cases h
      | box id cells b e cur cvs Fc F hid hη hb hcur hone hcell hvv hF hdis hself =>
        have hcl : ∀ (k : Nat) (u : Value), cur[k]? = some u → C.w.cell? ((⟨b, 0, none⟩ : Addr).add k) = some u := fun k u hk => by
          rw [Addr.add_lit]
          simp [World.cell?, hb, hk]
        cases hsh : shp P t with
        | none => simp [hsh] at ho
        | some o =>
          cases o with
          | none =>
            simp only [hsh] at ho
            split at ho
            · rename_i u
              cases ho
              refine ⟨cvs 0, Fc 0, ?_, hvv 0 _ rfl, fun x hx => hFs x ((hF x).2 (.inr ⟨0, rfl, hx⟩))⟩
              have h0 := hcl 0 _ (hcell 0 _ rfl)
              rw [Addr.add_lit] at h0
              have := run_loadVar_one (P := P) hsh h0
              simpa [resRun, hcv, asAddr] using this
            · cases ho
          | some n =>
            simp only [hsh] at ho
            by_cases hl : cells.length = n
            · rw [if_pos hl, Option.some.injEq] at ho
              subst ho
              refine ⟨.agg cur, fun x => ∃ k, (cells[k]?).isSome ∧ Fc k x, ?_, .agg cells cur Fc _ hcur (fun k v cv h1 h2 => ?_) (fun x => Iff.rfl) hdis, fun x ⟨k, h1, h2⟩ => hFs x ((hF x).2 (.inr ⟨k, h1, h2⟩))⟩
              · have := run_loadVar_agg (P := P) hsh (w := C.w) (a := ⟨b, 0, none⟩) cur (by rw [hcur, hl]) hcl
                simpa [resRun, hcv, asAddr] using this
              · have := hcell k v h1
                rw [h2] at this
                cases this
                exact hvv k v h1
            · rw [if_neg hl] at ho; cases ho
    | _ => simp [hs] at ho
theorem outL_sound {C : Cx} {fr : Fr} {tmps : Array Value} {F : Nat → FP} (h : Rel C fr (fun t => tmps.getD t Go.undef) F) : ∀ (rs : List ResultVar) {vs : List AV}, outL P fr rs = some vs →
    ∃ (cvs : List Value) (Fc : Nat → FP), (rs.mapM (resRun tmps)).run P C.w = .ok cvs C.w ∧ cvs.length = vs.length ∧ vs.length = rs.length ∧ (∀ k v cv, vs[k]? = some v → cvs[k]? = some cv → VR C v cv (Fc k)) ∧ (∀ k r x, rs[k]? = some r → Fc k x → F (outSlot r) x)
  | [], vs, ho => by
    simp only [outL, Option.some.injEq] at ho
    subst ho
    exact ⟨[], fun _ _ => False, by simp, rfl, rfl, fun k v cv h => by simp at h, fun k r x h => by simp at h⟩
  | r :: rs, vs, ho => by
    simp only [outL, Option.bind_eq_some_iff, Option.some.injEq] at ho
    obtain ⟨v, h1, ws, h2, rfl⟩ := ho
    obtain ⟨cv, Fv, r1, v1, s1⟩ := outV_sound h h1
    obtain ⟨cvs, Fc, r2, l1, l2, v2, s2⟩ := outL_sound h rs h2
    refine ⟨cv :: cvs, fun k => match k with | 0 => Fv | k + 1 => Fc k, by simp [List.mapM_cons, r1, r2], by simp [l1], by simp [l2], fun k v cv h1 h2 => ?_, fun k r x h1 h2 => ?_⟩
    · cases k with
      | zero => simp only [List.getElem?_cons_zero, Option.some.injEq] at h1 h2; subst h1; subst h2; exact v1
      | succ k => simp only [List.getElem?_cons_succ] at h1 h2; exact v2 k v cv h1 h2
    · cases k with
      | zero => simp only [List.getElem?_cons_zero, Option.some.injEq] at h1; subst h1; exact s1 x h2
      | succ k => simp only [List.getElem?_cons_succ] at h1; exact s2 k r x h1 h2
theorem results_eq (fn : Func) (tmps : Array Value) : results fn tmps = (do let vs ← fn.results.toList.mapM (resRun tmps); pure (if h : vs.toArray.size = 1 then vs.toArray[0] else .tuple vs.toArray)) := by
  show (do let vs ← fn.results.mapM (resRun tmps); pure (if h : vs.size = 1 then vs[0] else .tuple vs)) = _
  rw [Array.mapM_eq_mapM_toList]
  simp
theorem outR_sound {fn : Func} {C : Cx} {fr : Fr} {tmps : Array Value} {F : Nat → FP} (h : Rel C fr (fun t => tmps.getD t Go.undef) F) {v : AV} (ho : outR P fr fn.results.toList = some v) :
    ∃ cv Fv, (results fn tmps).run P C.w = .ok cv C.w ∧ VR C v cv Fv ∧ ∀ x, Fv x → ∃ t, F t x := by
  rw [results_eq]
  generalize fn.results.toList = rs at ho
  unfold outR at ho
  split at ho
  · rename_i r
    obtain ⟨cv, Fv, h1, h2, h3⟩ := outV_sound h ho
    exact ⟨cv, Fv, by simp [h1], h2, fun x hx => ⟨_, h3 x hx⟩⟩
  · rename_i hne
    split at ho
    · rename_i hnd
      obtain ⟨vs, hvs, rfl⟩ := Option.map_eq_some_iff.1 ho
      obtain ⟨cvs, Fc, r2, l1, l2, v2, s2⟩ := outL_sound h rs hvs
      have hlen : cvs.length ≠ 1 := fun e => by
        rw [l1, l2] at e
        match rs, e with
        | [r], _ => exact hne r rfl
      refine ⟨.tuple cvs.toArray, fun x => ∃ k, (vs[k]?).isSome ∧ Fc k x, by simp [r2, hlen], .tup vs _ Fc _ (by simp [l1]) (fun k v cv h1 h2 => v2 k v cv h1 (by simpa using h2)) (fun x => Iff.rfl) (fun k k' x h1 h2 h3 h4 => ?_), fun x ⟨k, h1, h2⟩ => ?_⟩
      · have hk : k < rs.length := by rw [← l2]; simpa using h1
        have hk' : k' < rs.length := by rw [← l2]; simpa using h2
        have e1 := s2 k rs[k] x (List.getElem?_eq_getElem hk) h3
        have e2 := s2 k' rs[k'] x (List.getElem?_eq_getElem hk') h4
        have e3 := h.dis _ _ x e1 e2
        have hp := List.pairwise_iff_getElem.1 hnd
        rcases Nat.lt_trichotomy k k' with hlt | rfl | hlt
        · exact absurd (by rw [List.getElem_map, List.getElem_map]; exact e3) (hp k k' (by simpa using hk) (by simpa using hk') hlt)
        · rfl
        · exact absurd (by rw [List.getElem_map, List.getElem_map]; exact e3.symm) (hp k' k (by simpa using hk') (by simpa using hk) hlt)
      · have hk : k < rs.length := by rw [← l2]; simpa using h1
        exact ⟨_, s2 k rs[k] x (List.getElem?_eq_getElem hk) h2⟩
    · cases ho
/-- From the code of a function to what it is known to do. -/
theorem Con.of {f : FuncId} {fn : Func} {c : Code} {args : List AV} {R : AV → Prop} (hf : P.funcs[f]? = some fn) (hb : fn.body = some c) (hn : args.length ≤ fn.ntmps)
    (h : ∀ K g, AW P K c (Fr.start args g fn.ntmps) (fun e fr => (e = .ret ∨ e = .normal) ∧ ∃ v, outR P fr fn.results.toList = some v ∧ R v)) : Con P f args R := by
  intro C cargs hlt hsz hargs
  refine calls_of_wp hf hb ?_
  let K : Base := ⟨C.w, fun _ => False, C.D, C.η, C.g⟩
  have hst : St K (Fr.start args C.g fn.ntmps) { tmps := cargs ++ Array.replicate (fn.ntmps - cargs.size) Go.undef, defers := [] } C.w := by
    refine ⟨C, fun _ _ => False, rfl, rfl, ⟨fun t => .lit _ _ ?_, fun _ _ _ h => h.elim, fun _ _ h => h.elim⟩, hlt, fun _ _ h => h.elim, fun x hx => ⟨hx, fun _ h => h⟩, Fram.refl _ _, rfl, ?_, Nat.le_refl _, fun _ _ => rfl⟩
    · show FZ C.w C.D (args.getD t .undef) _
      rw [List.getD_eq_getElem?_getD]
      cases ha : args[t]? with
      | none => exact .undef _
      | some v =>
        have hlt' : t < cargs.size := by rw [hsz]; exact (List.getElem?_eq_some_iff.1 ha).1
        have hc : cargs[t]? = some cargs[t] := Array.getElem?_eq_getElem hlt'
        have := hargs t v _ ha hc
        simp only [Option.getD_some, Array.getD_eq_getD_getElem?]
        rw [Array.getElem?_append_left hlt', hc]
        exact this
    · simp only [Array.size_append, Array.size_replicate, Fr.start, hsz]
      omega
  refine wp_mono (h K C.g _ _ hst) ?_
  rintro e a w' ⟨fr, ⟨he, v, ho, hR⟩, C', F, hs⟩
  obtain ⟨cv, Fv, h1, h2, h3⟩ := outR_sound (fn := fn) hs.rel ho
  have hFD : ∀ x, Fv x → C'.D x := fun x hx => let ⟨t, ht⟩ := h3 x hx; hs.rel.sub t x ht
  have hw := hs.hw
  have post : a.defers = [] ∧ ∃ v, (results fn a.tmps).run P w' = .ok v w' ∧ Ret C R (.returned v) w' := by
    refine ⟨hs.defers, cv, by rw [← hw]; exact h1, v, ⟨w', fun x => C.D x ∨ Fv x, C'.η, C'.g⟩, Fv, hR, rfl, hs.eta.1, hs.eta.2, fun x => Iff.rfl, h2.mono ⟨Nat.le_refl _, fun _ _ => rfl, fun x _ => by rw [← hw], fun x _ hD => ⟨by rw [← hw], fun hx => hx.elim (fun h => hD (hs.avoid x h).1) (fun h => hD (hFD x h))⟩⟩, fun x hx => ⟨?_, ?_⟩, hs.fram⟩
    · obtain ⟨t, ht⟩ := h3 x hx
      exact (hs.new t x ht).resolve_left id
    · exact hs.lt x (hFD x hx)
  rcases he with rfl | rfl
  · exact post
  · exact post
theorem run_call {o : Oper} {f : FuncId} {xs : Array Operand} {ts : Array TypeId} {fn : Func} {c : Code} (ho : o.op = .call { callee := .value (.func f), args := xs, argTypes := ts }) (hf : P.funcs[f]? = some fn) (hb : fn.body = some c)
    (hname : (fn.name == "runtime.NumGoroutine") = false) (a : Act) (w : World) : (execOp a.eval o).run P w = .ok (.enter f (xs.map a.eval)) w := by
  have h1 : fn.name ≠ "runtime.NumGoroutine" := by simpa using hname
  have : (callFunc f (xs.map a.eval)).run P w = .ok (.enter f (xs.map a.eval)) w := by simp [callFunc, hf, h1, hb]
  simp only [execOp, ho, resolve]
  simpa [Deferred.ofValue, Act.eval, invoke] using this
def AV.scal : AV → Bool
  | .int .. => true
  | .bool _ => true
  | .str _ => true
  | .fn _ => true
  | _ => false
theorem VR.scal {C C' : Cx} {v : AV} {cv : Value} {F : FP} (h : VR C v cv F) (hs : v.scal = true) : VR C' v cv (fun _ => False) := by
  cases v <;> first
    | (cases hs; done)
    | (cases h with | lit v cv h => cases h; constructor; constructor)
/-- The arguments of a call, at a frame. -/
theorem args_at {α : Type} {xs : Array Operand} {a : Act} {f : Operand → α} {i : Nat} {v : α} {cv : Value} (h1 : (xs.toList.map f)[i]? = some v) (h2 : (xs.map a.eval)[i]? = some cv) : ∃ x, f x = v ∧ a.eval x = cv := by
  simp only [List.getElem?_map, Array.getElem?_toList, Option.map_eq_some_iff] at h1
  simp only [Array.getElem?_map, Option.map_eq_some_iff] at h2
  obtain ⟨x, h3, h4⟩ := h1
  obtain ⟨y, h5, h6⟩ := h2
  rw [h3] at h5
  cases h5
  exact ⟨x, h4, h6⟩
section
variable {K : Base} {fr fr' : Fr} {o : Oper} {f : FuncId} {xs : Array Operand} {ts : Array TypeId} {fn : Func} {c : Code}
theorem wp_call {a : Act} {w : World} {next : Act → World → Prop} {Q : Exit → Act → World → Prop} {R : Ending → World → Prop} (hr : (execOp a.eval o).run P w = .ok (.enter f (xs.map a.eval)) w) (hc : Calls P f (xs.map a.eval) w R)
    (h : ∀ e w', R e w' → ∃ cv, e = .returned cv ∧ next (a.put o.dst cv) w') : o.wp P a w next Q := by
  unfold Oper.wp
  rw [hr, Oper.upon_enter]
  refine hc.mono fun e w' he => ?_
  obtain ⟨cv, rfl, hn⟩ := h e w' he
  exact hn
/-- A call whose arguments nobody writes: what comes back is frozen. -/
theorem Quiet.callF {R : AV → Prop} {v : AV} (ho : o.op = .call { callee := .value (.func f), args := xs, argTypes := ts }) (hf : P.funcs[f]? = some fn) (hb : fn.body = some c) (hname : (fn.name == "runtime.NumGoroutine") = false)
    (hcon : Con P f (xs.toList.map fun x => (fr.ev x).frz) R) (hR : ∀ res, R res → res.frz = v) : Quiet P o fr v := by
  intro K a w C F hs next Q hn
  have hw := hs.hw
  subst hw
  refine wp_call (run_call ho hf hb hname a C.w) (hcon C (xs.map a.eval) hs.lt (by simp) fun i v cv h1 h2 => ?_) fun e w' he => ?_
  · obtain ⟨x, rfl, rfl⟩ := args_at h1 h2
    exact (hs.ev x).frz (fun _ h => h) (fun _ h => h.elim)
  · cases e with
    | returned cv =>
      obtain ⟨res, C', Fv, h1, rfl, h3, h4, h5, h6, h7, h8⟩ := he
      refine ⟨cv, rfl, hn cv _ h8 (.lit _ _ ?_)⟩
      rw [← hR res h1]
      exact h6.frz (fun x hx => (h5 x).2 (.inl hx)) (fun x hx hD => by have := (h7 x hx).1; have := hs.lt x hD; omega)
    | panicked ch => exact he.elim
    | outgrown => exact he.elim
/-- A call that looks at what is still being written, and hands back a plain value. -/
theorem Quiet.callS {R : AV → Prop} {v : AV} {vs : List AV} (ho : o.op = .call { callee := .value (.func f), args := xs, argTypes := ts }) (hf : P.funcs[f]? = some fn) (hb : fn.body = some c) (hname : (fn.name == "runtime.NumGoroutine") = false)
    (hvs : fr.viewA (xs.toList.map fr.ev) = some vs) (hcon : Con P f vs R) (hR : ∀ res, R res → res = v) (hv : v.scal = true) : Quiet P o fr v := by
  intro K a w C F hs next Q hn
  have hw := hs.hw
  subst hw
  have hview := Rel.viewA (xs.toList.map fr.ev) (cx := fun k => (xs.map a.eval).getD k Go.undef) hs.rel (fun k u hk => by
    have hlt : k < xs.size := by simpa using (List.getElem?_eq_some_iff.1 hk).1
    obtain ⟨x, e1, e2⟩ := args_at hk (Array.getElem?_eq_getElem (xs := xs.map a.eval) (by simpa using hlt))
    rw [Array.getD_eq_getD_getElem?, Array.getElem?_eq_getElem (xs := xs.map a.eval) (by simpa using hlt), Option.getD_some, ← e1, ← e2]
    exact hs.ev x) hvs
  refine wp_call (run_call ho hf hb hname a C.w) (hcon { C with D := fun _ => False } (xs.map a.eval) (fun _ h => h.elim) (by rw [hview.1]; simp) fun i v cv h1 h2 => ?_) fun e w' he => ?_
  · have := hview.2 i v h1
    rw [Array.getD_eq_getD_getElem?, h2, Option.getD_some] at this
    exact this
  · cases e with
    | returned cv =>
      obtain ⟨res, C', Fv, h1, rfl, h3, h4, h5, h6, h7, h8⟩ := he
      refine ⟨cv, rfl, hn cv _ h8 ?_⟩
      have := hR res h1
      subst this
      exact h6.scal hv
    | panicked ch => exact he.elim
    | outgrown => exact he.elim
/-- An operation, and the frames that may stand behind it. -/
def OpE (P : Program) (K : Base) (o : Oper) (fr : Fr) (Φ : Fr → Prop) : Prop :=
  ∀ a w, St K fr a w → ∀ (next : Act → World → Prop) (Q : Exit → Act → World → Prop), (∀ fr' a' w', Φ fr' → St K fr' a' w' → next a' w') → o.wp P a w next Q
theorem LW.consE {all : Array Oper} {l : List Oper} {Q : Exit → Fr → Prop} {Φ : Fr → Prop} (hg : o.guard = none) (ho : OpE P K o fr Φ) (h : ∀ fr', Φ fr' → LW P K all l fr' Q) : LW P K all (o :: l) fr Q := by
  intro a w hs
  unfold wpList
  have : Region.wanted o (yielded all a.tmps) = true := by unfold Region.wanted; rw [hg]
  rw [this, if_pos rfl]
  exact .inl (ho a w hs _ _ fun fr' a' w' hp hs' => h fr' hp a' w' hs')
/-- A call that hands back something that is the caller's own. -/
theorem OpE.call {R : AV → Prop} (ho : o.op = .call { callee := .value (.func f), args := xs, argTypes := ts }) (hf : P.funcs[f]? = some fn) (hb : fn.body = some c) (hname : (fn.name == "runtime.NumGoroutine") = false)
    (hcon : Con P f (xs.toList.map fun x => (fr.ev x).frz) R) (hd : ∀ d, o.dst = some d → d < fr.n) : OpE P K o fr (fun fr' => ∃ res g', R res ∧ fr.g ≤ g' ∧ Fr.dst ⟨fr.s, g', fr.n⟩ o.dst res = some fr') := by
  rintro a w ⟨C, F, hs⟩ next Q hn
  have hw := hs.hw
  subst hw
  refine wp_call (run_call ho hf hb hname a C.w) (hcon C (xs.map a.eval) hs.lt (by simp) fun i v cv h1 h2 => ?_) fun e w' he => ?_
  · obtain ⟨x, rfl, rfl⟩ := args_at h1 h2
    exact (hs.ev x).frz (fun _ h => h) (fun _ h => h.elim)
  · cases e with
    | returned cv =>
      obtain ⟨res, C', Fv, h1, rfl, h3, h4, h5, h6, h7, h8⟩ := he
      obtain ⟨fr', hfr'⟩ : ∃ fr', Fr.dst ⟨fr.s, C'.g, fr.n⟩ o.dst res = some fr' := by
        cases hod : o.dst with
        | none => exact ⟨_, rfl⟩
        | some d => exact ⟨_, if_pos (hd d hod)⟩
      refine ⟨cv, rfl, hn fr' _ _ ⟨res, C'.g, h1, by rw [← hs.hg]; exact h3, hfr'⟩ ?_⟩
      have hc : ∀ {F : FP}, (∀ x, F x → C.D x) → Compat C C' F := fun hF => ⟨h3, h4, fun x hx => h8.block x (hs.lt x (hF x hx)) id, fun x hx hD => ⟨h8.block x hx id, fun h => ((h5 x).1 h).elim hD fun h => by have := (h7 x h).1; omega⟩⟩
      refine StC.put (fr := ⟨fr.s, C'.g, fr.n⟩) (C' := C') (F' := F) ⟨Nat.le_trans hs.eta.1 h3, fun id hid => (h4 id (Nat.lt_of_lt_of_le hid hs.eta.1)).trans (hs.eta.2 id hid)⟩ rfl rfl ⟨fun t => (hs.rel.vr t).mono (hc (hs.rel.sub t)), hs.rel.dis, fun t x hx => (h5 x).2 (.inl (hs.rel.sub t x hx))⟩ h6
        (fun t x h1 h2 => by have := (h7 x h2).1; have := hs.lt x (hs.rel.sub t x h1); omega) (fun x hx => (h5 x).2 (.inr hx)) (fun x hx => ((h5 x).1 hx).elim (fun h => Nat.lt_of_lt_of_le (hs.lt x h) h8.size) fun h => (h7 x h).2) hs.new (fun x hx => .inr (Nat.le_trans hs.fram.size (h7 x hx).1))
        (fun x hx => ⟨(h5 x).2 (.inl (hs.avoid x hx).1), (hs.avoid x hx).2, fun h => by have := (h7 x h).1; have := hs.lt x (hs.avoid x hx).1; omega⟩) (hs.fram.trans ⟨h8.os, h8.tape, h8.output, h8.size, fun x hx _ => h8.block x hx id⟩) hs.defers hs.size hfr'
    | panicked ch => exact he.elim
    | outgrown => exact he.elim
end
end
end Go.Proofs.Ytgoajlgkbcongaa.Vm
end
section
set_option linter.unusedVariables false
set_option linter.unusedSimpArgs false
namespace Go.Proofs.Ytgoajlgkbcongaa.Vm
open Go Go.RowKit
def oneTy : Option TypeDesc → Bool
  | some (.int _) => true
  | some .bool => true
  | some .string => true
  | _ => false
def fitTy : AV → Option TypeDesc → Bool
  | .int .., some (.int _) => true
  | .bool _, some .bool => true
  | .str _, some .string => true
  | _, _ => false
def isBoolTy (P : Program) (t : TypeId) : Bool := match P.underlying t with
  | some .bool => true
  | _ => false
theorem isBoolTy_spec {P : Program} {t : TypeId} (h : isBoolTy P t = true) : P.underlying t = some .bool := by
  unfold isBoolTy at h
  split at h
  · assumption
  · cases h
/-- A struct type whose fields are numbers, bools and strings, each in one cell. -/
def eqTy (P : Program) (t : TypeId) : Bool :=
  match P.underlying t with
  | some (.struct fs) => !P.stoodInHeld t && !P.eqGuardType P.depth t && (List.range fs.size).all fun i => match fs[i]? with
    | some f => f.name != "_" && f.offset == i && oneTy (P.underlying f.type)
    | none => false
  | _ => false
def eqN (P : Program) (t : TypeId) : Nat :=
  match P.underlying t with
  | some (.struct fs) => fs.size
  | _ => 0
def eqC : AV → AV → Option Bool
  | .int k a, .int k' b => if k = k' then some (a == b) else none
  | .bool a, .bool b => some (a == b)
  | .str a, .str b => some (a.toList == b.toList)
  | _, _ => none
def eqCs : List AV → List AV → Option Bool
  | [], [] => some true
  | x :: xs, y :: ys => (eqC x y).bind fun b => (eqCs xs ys).map fun c => b && c
  | _, _ => none
section
variable {P : Program} {K : Base} {fr fr' : Fr} {o : Oper}
theorem eqC_run {C : Cx} {x y : AV} {cx cy : Value} {F G : FP} {b : Bool} (hx : VR C x cx F) (hy : VR C y cy G) (he : eqC x y = some b) {ft : TypeId} (hf : oneTy (P.underlying ft) = true) (hfit : fitTy x (P.underlying ft) = true) (d : Nat) (w : World) {xs ys : Array Value} {i : Nat} (h1 : xs[i]? = some cx) (h2 : ys[i]? = some cy) :
    (part ft xs i).run P w = .ok cx w ∧ (part ft ys i).run P w = .ok cy w ∧ (Op.equalIn (d + 1) ft cx cy).run P w = .ok b w := by
  cases hu : P.underlying ft with
  | none => simp [hu, oneTy] at hf
  | some td =>
    have hp : ∀ (zs : Array Value) (cz : Value), zs[i]? = some cz → (part ft zs i).run P w = .ok cz w := by
      intro zs cz hz
      cases td <;> simp [hu, oneTy] at hf <;> simp [part, isAgg, run_underlying hu, hz]
    refine ⟨hp xs cx h1, hp ys cy h2, ?_⟩
    cases x <;> simp only [hu] at hfit <;> cases td <;> simp [fitTy] at hfit
    · cases y <;> simp only [eqC] at he <;> first
        | (cases he; done)
        | (split at he <;> first
            | (rename_i hk; subst hk; cases he; rw [hx.isInt, hy.isInt]; exact run_equalIn_int (P := P) w d ft _ _ _ _ hu)
            | cases he)
    · cases y <;> simp only [eqC] at he <;> first
        | (cases he; done)
        | (cases he; rw [hx.isBool, hy.isBool]; exact run_equalIn_bool' (P := P) w d ft _ _ hu)
    · cases y <;> simp only [eqC] at he <;> first
        | (cases he; done)
        | (cases he; rw [hx.isStr, hy.isStr]; exact run_equalIn_string (P := P) w d ft _ _ hu)
/-- Do the cells fit the fields? -/
def eqFit (P : Program) : List AV → List Field → Bool
  | [], [] => true
  | x :: xs, f :: fs => fitTy x (P.underlying f.type) && eqFit P xs fs
  | _, _ => false
def eqFits (P : Program) (t : TypeId) (xs : List AV) : Bool :=
  match P.underlying t with
  | some (.struct fs) => eqFit P xs fs.toList
  | _ => false
theorem eqCs_run {C : Cx} (d : Nat) (w : World) {cxs cys : Array Value} : ∀ (fs : List Field) (xs ys : List AV) (i : Nat) {b : Bool}, (∀ k x cx, xs[k]? = some x → cxs[i + k]? = some cx → VR C x cx (fun _ => False)) → (∀ k x cx, ys[k]? = some x → cys[i + k]? = some cx → VR C x cx (fun _ => False)) →
    i + xs.length ≤ cxs.size → i + ys.length ≤ cys.size → (∀ k f, fs[k]? = some f → f.name ≠ "_" ∧ f.offset = i + k ∧ oneTy (P.underlying f.type) = true) → eqFit P xs fs = true → eqCs xs ys = some b → (Op.eqFields (d + 1) cxs cys fs).run P w = .ok b w
  | [], [], [], i, b, hx, hy, h1, h2, hf, hfit, he => by
    simp only [eqCs, Option.some.injEq] at he
    subst he
    simp [Op.eqFields]
  | f :: fs, x :: xs, y :: ys, i, b, hx, hy, h1, h2, hf, hfit, he => by
    simp only [eqCs, Option.bind_eq_some_iff, Option.map_eq_some_iff] at he
    obtain ⟨b1, e1, b2, e2, rfl⟩ := he
    simp only [eqFit, Bool.and_eq_true] at hfit
    simp only [List.length_cons] at h1 h2
    obtain ⟨hn, ho, ht⟩ := hf 0 f rfl
    have c1 : cxs[i]? = some cxs[i] := Array.getElem?_eq_getElem (by omega)
    have c2 : cys[i]? = some cys[i] := Array.getElem?_eq_getElem (by omega)
    have v1 := hx 0 x _ rfl c1
    have v2 := hy 0 y _ rfl c2
    obtain ⟨r1, r2, r3⟩ := eqC_run v1 v2 e1 ht hfit.1 d w c1 c2
    have ih := eqCs_run d w fs xs ys (i + 1) (b := b2) (fun k u cu g1 g2 => hx (k + 1) u cu (by simpa using g1) (by rw [← g2]; congr 1; omega)) (fun k u cu g1 g2 => hy (k + 1) u cu (by simpa using g1) (by rw [← g2]; congr 1; omega)) (by omega) (by omega)
      (fun k g hg => by obtain ⟨q1, q2, q3⟩ := hf (k + 1) g (by simpa using hg); exact ⟨q1, by omega, q3⟩) hfit.2 e2
    simp only [Nat.add_zero] at ho
    simp only [Op.eqFields, if_pos hn, Sem.run_bind, ho, r1, r2, r3, Result.andThen_ok]
    cases b1
    · simp
    · simpa using ih
  | [], _ :: _, _, i, b, hx, hy, h1, h2, hf, hfit, he => by simp [eqFit] at hfit
  | _ :: _, [], _, i, b, hx, hy, h1, h2, hf, hfit, he => by simp [eqFit] at hfit
  | [], [], _ :: _, i, b, hx, hy, h1, h2, hf, hfit, he => by simp [eqCs] at he
  | _ :: _, _ :: _, [], i, b, hx, hy, h1, h2, hf, hfit, he => by simp [eqCs] at he
theorem VR.aggParts {C : Cx} {vs : List AV} {cv : Value} (h : VR C (.agg vs) cv (fun _ => False)) : ∃ cvs : Array Value, cv = .agg cvs ∧ cvs.size = vs.length ∧ ∀ (k : Nat) (v : AV) (cv : Value), vs[k]? = some v → cvs[k]? = some cv → VR C v cv (fun _ => False) := by
  cases h with
  | lit v cv h => cases h with
    | agg vs cvs hn hv => exact ⟨cvs, rfl, hn, fun k v cv h1 h2 => .lit _ _ (hv k v cv h1 h2)⟩
  | agg vs cvs Fc F hn hv hF => exact ⟨cvs, rfl, hn, fun k v cv h1 h2 => (hv k v cv h1 h2).noFP fun x hx => ((hF x).2 ⟨k, by rw [h1]; rfl, hx⟩)⟩
theorem eqAgg_run {C : Cx} {t : TypeId} {xs ys : List AV} {cx cy : Value} {b : Bool} (hx : VR C (.agg xs) cx (fun _ => False)) (hy : VR C (.agg ys) cy (fun _ => False)) (ht : eqTy P t = true) (hfit : eqFits P t xs = true) (he : eqCs xs ys = some b) (w : World) :
    ∃ cxs cys, cx = .agg cxs ∧ cy = .agg cys ∧ (Op.equalIn 10000 t (.agg cxs) (.agg cys)).run P w = .ok b w ∧ P.eqGuardType P.depth t = false := by
  obtain ⟨cxs, rfl, n1, v1⟩ := hx.aggParts
  obtain ⟨cys, rfl, n2, v2⟩ := hy.aggParts
  unfold eqTy at ht
  unfold eqFits at hfit
  cases hu : P.underlying t with
  | none => simp [hu] at ht
  | some td =>
    cases td with
    | struct fs =>
      simp only [hu] at ht hfit
      simp only [Bool.and_eq_true, List.all_eq_true, List.mem_range, Bool.not_eq_true'] at ht
      obtain ⟨⟨h1, h2⟩, h3⟩ := ht
      refine ⟨cxs, cys, rfl, rfl, ?_, h2⟩
      have hf : P.fieldsOf t = fs := by simp [Program.fieldsOf, hu]
      rw [show (10000 : Nat) = 9999 + 1 from rfl, run_equalIn_struct (P := P) w 9999 t cxs cys (by rw [hf]; exact hu) h1, hf, show (9999 : Nat) = 9998 + 1 from rfl]
      refine eqCs_run (P := P) 9998 w fs.toList xs ys 0 (fun k x cx g1 g2 => v1 k x cx g1 (by simpa using g2)) (fun k x cx g1 g2 => v2 k x cx g1 (by simpa using g2)) (by omega) (by omega) (fun k f hk => ?_) hfit he
      have hk' : fs[k]? = some f := by simpa using hk
      have hlt : k < fs.size := (Array.getElem?_eq_some_iff.1 hk').1
      have := h3 k hlt
      rw [hk'] at this
      simp only [Bool.and_eq_true, bne_iff_ne, ne_eq, beq_iff_eq] at this
      exact ⟨this.1.1, by omega, this.2⟩
    | _ => simp [hu] at ht
theorem Quiet.eqAgg {t t' : TypeId} {x y : Operand} {xs ys : List AV} {b : Bool} (ho : o.op = .binOp .eql t x y t') (hx : fr.ev x = .agg xs) (hy : fr.ev y = .agg ys) (ht : eqTy P t = true) (hfit : eqFits P t xs = true) (he : eqCs xs ys = some b) : Quiet P o fr (.bool b) :=
  .ofRun fun K a w C F hs => by
    have h1 := hs.ev x
    have h2 := hs.ev y
    rw [hx] at h1
    rw [hy] at h2
    obtain ⟨cxs, cys, e1, e2, hr, hg⟩ := eqAgg_run (P := P) h1 h2 ht hfit he w
    refine ⟨.bool b, ?_, .lit _ _ (.bool _)⟩
    simp only [execOp, ho, e1, e2, Sem.run_bind, run_eqGuard_agg (P := P) w .eql t x y cxs cys hg, Result.andThen_ok, run_eql_struct (P := P) w t cxs cys, hr, Sem.run_pure]
theorem Quiet.neAgg {t t' : TypeId} {x y : Operand} {xs ys : List AV} {b : Bool} (ho : o.op = .binOp .neq t x y t') (hx : fr.ev x = .agg xs) (hy : fr.ev y = .agg ys) (ht : eqTy P t = true) (hfit : eqFits P t xs = true) (he : eqCs xs ys = some b) : Quiet P o fr (.bool (!b)) :=
  .ofRun fun K a w C F hs => by
    have h1 := hs.ev x
    have h2 := hs.ev y
    rw [hx] at h1
    rw [hy] at h2
    obtain ⟨cxs, cys, e1, e2, hr, hg⟩ := eqAgg_run (P := P) h1 h2 ht hfit he w
    refine ⟨.bool (!b), ?_, .lit _ _ (.bool _)⟩
    simp only [execOp, ho, e1, e2, Sem.run_bind, run_eqGuard_agg (P := P) w .neq t x y cxs cys hg, Result.andThen_ok, run_neq_struct (P := P) w t cxs cys, hr, Sem.run_pure]
/-! ### One operation -/
def pickV (b : Bool) (u v : AV) : AV :=
  match u, v with
  | .bool p, .bool q => .bool (if b then p else q)
  | .int k p, .int k' q => if k = k' then .int k (if b then p else q) else if b then .int k p else .int k' q
  | u, v => if b then u else v
theorem pickV_eq (b : Bool) (u v : AV) : pickV b u v = if b then u else v := by
  unfold pickV
  split
  · cases b <;> rfl
  · split
    · rename_i e; subst e; cases b <;> rfl
    · rfl
  · rfl
def xBin2 (P : Program) (op : BinOp) (t : TypeId) (u v : AV) : Option AV :=
  match u, v with
  | .bool p, .bool q => match op with
    | .neq => if isBoolTy P t = true then some (.bool (!(p == q))) else none
    | _ => none
  | .str p, .str q => match op with
    | .eql => some (.bool (p.toList == q.toList))
    | .neq => some (.bool (!(p.toList == q.toList)))
    | _ => none
  | .agg xs, .agg ys => if eqTy P t && eqFits P t xs then match op with
      | .eql => (eqCs xs ys).map .bool
      | .neq => (eqCs xs ys).map fun b => .bool (!b)
      | _ => none
    else none
  | u, v => xBin op u v
/-- An operation that only looks. -/
def xq (P : Program) (fr : Fr) (op : Op) : Option AV :=
  match op with
  | .move x => some (fr.ev x)
  | .load t x => xLoad P fr t (fr.ev x)
  | .fieldAddr s x i => xField P s (fr.ev x) i
  | .indexAddr t x i => xIndex P fr t (fr.ev x) (fr.ev i)
  | .binOp op t x y _ => xBin2 P op t (fr.ev x) (fr.ev y)
  | .unOp .not _ x => match fr.ev x with
    | .bool b => some (.bool (!b))
    | _ => none
  | .unOp .neg _ x => match fr.ev x with
    | .int k n => some (.int k (k.wrap (0 - n)))
    | _ => none
  | .pick c x y => match fr.ev c with
    | .bool b => some (pickV b (fr.ev x) (fr.ev y))
    | _ => none
  | .convert src dst x => match fr.ev x with
    | .int _ n => if (P.underlying src).isSome then (intk P dst).map fun k => .int k (k.wrap n) else none
    | _ => none
  | .extract x i => match fr.ev x with
    | .tup vs => vs[i]?
    | _ => none
  | .slice t x lo hi none => xCut P t (fr.ev x) (lo.map fr.ev) (hi.map fr.ev)
  | .makeFunc (.func f) first caps => if first.size = 0 then some (if caps.size = 0 then .fn f else .clo f (caps.toList.map fr.ev)) else none
  | .call c => match c.callee, c.args.toList, c.argTypes.toList with
    | .builtin .len, [x], [t] => if (elsz P t).isSome then (xLen fr (fr.ev x)).map fun (n : Nat) => AV.int .i64 (n : Int) else none
    | _, _, _ => none
  | _ => none
theorem xq_sound {v : AV} (h : xq P fr o.op = some v) : Quiet P o fr v := by
  unfold xq at h
  split at h
  · rename_i ho; cases h; exact .move ho
  · rename_i ho; exact .load ho h
  · rename_i ho; exact .fieldAddr ho h
  · rename_i ho; exact .indexAddr ho h
  · rename_i op t x y t' ho
    unfold xBin2 at h
    split at h
    · rename_i p q hx hy
      split at h
      · split at h
        · rename_i ht; cases h; exact .neBool (isBoolTy_spec ht) ho hx hy
        · cases h
      · cases h
    · rename_i p q hx hy
      split at h
      · cases h; exact .eqStr ho hx hy
      · cases h; exact .neStr ho hx hy
      · cases h
    · rename_i xs ys hx hy
      split at h
      · rename_i ht
        simp only [Bool.and_eq_true] at ht
        split at h
        · obtain ⟨b, hb, rfl⟩ := Option.map_eq_some_iff.1 h
          exact .eqAgg ho hx hy ht.1 ht.2 hb
        · obtain ⟨b, hb, rfl⟩ := Option.map_eq_some_iff.1 h
          exact .neAgg ho hx hy ht.1 ht.2 hb
        · cases h
      · cases h
    · exact .binInt ho h
  · rename_i ho
    split at h
    · rename_i hx; cases h; exact .not ho hx
    · cases h
  · rename_i ho
    split at h
    · rename_i hx; cases h; exact .neg ho hx
    · cases h
  · rename_i ho
    split at h
    · rename_i hx; cases h; rw [pickV_eq]; exact .pick ho hx
    · cases h
  · rename_i ho
    split at h
    · rename_i hx
      split at h
      · rename_i hs
        obtain ⟨k, hk, rfl⟩ := Option.map_eq_some_iff.1 h
        exact .convInt ho hs hk hx
      · cases h
    · cases h
  · rename_i ho
    split at h
    · rename_i hx; exact .extract ho hx h
    · cases h
  · rename_i ho; exact .cut ho h
  · rename_i f first caps ho
    split at h
    · rename_i hz
      cases h
      have : first = #[] := Array.eq_empty_of_size_eq_zero hz
      subst this
      exact .makeFunc ho
    · cases h
  · rename_i c ho
    split at h
    · rename_i x t hc hx ht0
      split at h
      · rename_i ht
        obtain ⟨n, hn, rfl⟩ := Option.map_eq_some_iff.1 h
        obtain ⟨callee, args, argTypes⟩ := c
        simp only at hc hx ht0
        subst hc
        have e1 : args = #[x] := Array.toList_inj.1 hx
        have e2 : argTypes = #[t] := Array.toList_inj.1 ht0
        subst e1
        subst e2
        exact .len ho ht hn
      · cases h
    · cases h
  · cases h
def tsz (P : Program) (t : TypeId) : Option Nat := (P.info? t).map (·.size)
def ezer (P : Program) (t : TypeId) : Option (List AV) := zer P (P.elem t)
def eone (P : Program) (t : TypeId) : Bool := oneCells P (P.elem t)
def eby (P : Program) (t : TypeId) : Option Nat := (P.info? (P.elem t)).map (·.bytes)
def zer1v (P : Program) (t : TypeId) : Option (AV × Nat) := (zer1 P t).bind fun z => if z.1.oneCell' = true then some (ofConst z.1, z.2) else none
/-- An operation that makes, moves or writes. -/
def xe (P : Program) (fr : Fr) (d : Option Tmp) (op : Op) : Option Fr :=
  match op with
  | .assign x => (fr.mat1 (fr.ev x)).bind fun r => r.2.dst d r.1
  | .store t x y => (fr.mat1 (fr.ev y)).bind fun r => if r.1.solid = true ∧ tsz P t = some r.1.cellsL.length then (xStore P r.2 (fr.ev x) r.1.cellsL).bind fun f => f.dst d .undef else none
  | .box t x => (fr.mat1 (fr.ev x)).bind fun r => if r.1.solid = true then (r.2.fresh 1).dst d (.box r.2.g r.1.cellsL) else none
  | .alloc t => if oneCells P t = true then (zer P t).bind fun zs => (fr.fresh 1).dst d (.box fr.g zs) else none
  | .build t parts => (fr.matA (parts.toList.map fun p => fr.ev p.2)).bind fun r => if oneCells P t = true then (bplc P t).bind fun pl => (zer P t).bind fun zs => (afill (fun i => pl[i]?) zs ((parts.toList.map (·.1)).zip r.1)).bind fun out => r.2.dst d (.agg out) else none
  | .buildSlice t n parts => if n = 0 ∧ parts.size = 0 then (elsz P t).bind fun s => (fr.fresh 1).dst d (.own fr.g s []) else (fr.matA (parts.toList.map fun p => fr.ev p.2)).bind fun r => (elsz P t).bind fun s => (ezer P t).bind fun zs => if eone P t = true ∧ 0 < n * s ∧ n * s ≤ 16777216 then
      (afill (fun i => some (i * s, s)) (zerN zs (n * s)) ((parts.toList.map (·.1)).zip r.1)).bind fun out => (r.2.fresh 1).dst d (.own r.2.g s (chunk n s out)) else none
  | .makeSlice t x y => (zer1v P t).bind fun z => match fr.ev x, fr.ev y with
    | .int _ n, .int _ n' => if n' = n ∧ 0 ≤ n ∧ z.2 * n.toNat ≤ 281474976710656 ∧ n.toNat ≤ 9223372036854775807 then (fr.fresh 1).dst d (.own fr.g 1 (List.replicate n.toNat [z.1])) else none
    | _, _ => none
  | .makeMap t none => (fr.fresh 1).dst d (.mp fr.g [] [])
  | .call c => match c.callee, c.args.toList, c.argTypes.toList with
    | .builtin .append, [s, y], [t, t'] => (fr.src (fr.ev y)).bind fun ys => (elsz P t).bind fun z => (eby P t).bind fun i => (ys.2.bas z (fr.ev s)).bind fun bs =>
      if t' = t ∧ appOK P t z i = true ∧ ys.1.all (fun r => r.length == z) = true ∧ (bs.1.length + ys.1.length) * i ≤ 140737488355328 ∧ 0 < i then (bs.2.fresh 1).dst d (.own bs.2.g z (bs.1 ++ ys.1)) else none
    | _, _, _ => (xq P fr (.call c)).bind fun v => fr.dst d v
  | op => (xq P fr op).bind fun v => fr.dst d v
theorem xe_sound (h : xe P fr o.dst o.op = some fr') : OpS P K o fr fr' := by
  unfold xe at h
  split at h
  · rename_i ho
    obtain ⟨⟨v, f1⟩, h1, h2⟩ := Option.bind_eq_some_iff.1 h
    exact .assign ho h1 h2
  · rename_i ho
    obtain ⟨⟨v, f1⟩, h1, h2⟩ := Option.bind_eq_some_iff.1 h
    split at h2
    · rename_i hc
      obtain ⟨f, h3, h4⟩ := Option.bind_eq_some_iff.1 h2
      exact .store ho h1 hc.1 hc.2 h3 h4
    · cases h2
  · rename_i ho
    obtain ⟨⟨v, f1⟩, h1, h2⟩ := Option.bind_eq_some_iff.1 h
    split at h2
    · rename_i hc; exact .box ho h1 hc h2
    · cases h2
  · rename_i ho
    split at h
    · rename_i hc
      obtain ⟨zs, h1, h2⟩ := Option.bind_eq_some_iff.1 h
      exact .alloc ho h1 hc h2
    · cases h
  · rename_i ho
    obtain ⟨⟨v, f1⟩, h1, h2⟩ := Option.bind_eq_some_iff.1 h
    split at h2
    · rename_i hc
      obtain ⟨pl, h3, h4⟩ := Option.bind_eq_some_iff.1 h2
      obtain ⟨zs, h5, h6⟩ := Option.bind_eq_some_iff.1 h4
      obtain ⟨out, h7, h8⟩ := Option.bind_eq_some_iff.1 h6
      exact .build ho h1 h3 h5 hc h7 h8
    · cases h2
  · rename_i t n parts ho
    split at h
    · rename_i hz
      obtain ⟨rfl, hz⟩ := hz
      have : parts = #[] := Array.eq_empty_of_size_eq_zero hz
      subst this
      obtain ⟨s, h1, h2⟩ := Option.bind_eq_some_iff.1 h
      exact .buildSlice0 ho h1 h2
    · obtain ⟨⟨v, f1⟩, h1, h2⟩ := Option.bind_eq_some_iff.1 h
      obtain ⟨s, h3, h4⟩ := Option.bind_eq_some_iff.1 h2
      obtain ⟨zs, h5, h6⟩ := Option.bind_eq_some_iff.1 h4
      split at h6
      · rename_i hc
        obtain ⟨out, h7, h8⟩ := Option.bind_eq_some_iff.1 h6
        exact .buildSlice ho h1 h3 h5 hc.1 hc.2.1 hc.2.2 h7 h8
      · cases h6
  · rename_i ho
    obtain ⟨⟨zv, b⟩, h1, h2⟩ := Option.bind_eq_some_iff.1 h
    obtain ⟨⟨z, b'⟩, hz1, h1'⟩ := Option.bind_eq_some_iff.1 h1
    split at h1'
    rotate_left
    · cases h1'
    rename_i hone1
    simp only [Option.some.injEq, Prod.mk.injEq] at h1'
    obtain ⟨rfl, rfl⟩ := h1'
    split at h2
    · rename_i k n k' n' hx hy
      split at h2
      · rename_i hc
        obtain ⟨c2, c3, c4, c5⟩ := hc
        subst c2
        obtain ⟨m, rfl⟩ := Int.eq_ofNat_of_zero_le c3
        exact .makeSlice ho hz1 hone1 hx hy c4 c5 h2
      · cases h2
    · cases h2
  · rename_i ho; exact .makeMap ho h
  · rename_i c ho
    split at h
    · rename_i s y t t' hc hx ht0
      obtain ⟨⟨ys, f1⟩, h1, h2⟩ := Option.bind_eq_some_iff.1 h
      obtain ⟨z, h3, h4⟩ := Option.bind_eq_some_iff.1 h2
      obtain ⟨i, h5, h6⟩ := Option.bind_eq_some_iff.1 h4
      obtain ⟨⟨rows, f2⟩, h7, h8⟩ := Option.bind_eq_some_iff.1 h6
      split at h8
      · rename_i hcc
        obtain ⟨c1, c2, c3, c4, c5⟩ := hcc
        subst c1
        obtain ⟨callee, args, argTypes⟩ := c
        simp only at hc hx ht0
        subst hc
        have e1 : args = #[s, y] := Array.toList_inj.1 hx
        have e2 : argTypes = #[t', t'] := Array.toList_inj.1 ht0
        subst e1
        subst e2
        exact .append ho c2 h1 h7 c3 c4 c5 h8
      · cases h8
    · obtain ⟨v, h1, h2⟩ := Option.bind_eq_some_iff.1 h
      rw [← ho] at h1
      exact (xq_sound h1).step (Fr.Le.refl _) h2
  · obtain ⟨v, h1, h2⟩ := Option.bind_eq_some_iff.1 h
    exact (xq_sound h1).step (Fr.Le.refl _) h2
/-! ### A region -/
/-- Is the operation wanted? -/
def gst (all : Array Oper) (fr : Fr) (o : Oper) : Option Bool :=
  match o.guard with
  | none => some true
  | some (j, want) => match (all[j]?).bind (·.dst) with
    | some g => match fr.s g with
      | .bool b => some (b == want)
      | .tup [] => some false
      | _ => none
    | none => none
/-- A call of a function by its name. -/
def callOf (op : Op) : Option (FuncId × List Operand) :=
  match op with
  | .call { callee := .value (.func f), args := xs, argTypes := _ } => some (f, xs.toList)
  | _ => none
def AV.lent : AV → Bool
  | .bor .. => true
  | .adr .. => true
  | .agg vs => vs.any fun v => match v with
    | .bor .. => true
    | .adr .. => true
    | _ => false
  | .clo _ vs => vs.any fun v => match v with
    | .bor .. => true
    | .adr .. => true
    | _ => false
  | _ => false
/-- The arguments as the callee sees them, and what may come back. -/
def xargs (fr : Fr) (us : List AV) (v : AV) : Option (List AV) :=
  if us.any AV.lent then (if v.scal then fr.viewA us else none) else some (us.map AV.frz)
structure Ob where
  f : FuncId
  args : List AV
  res : AV
/-- What is asked of a call. -/
def Fun (P : Program) (f : FuncId) (args : List AV) (R : AV → Prop) : Prop :=
  (∃ fn c, P.funcs[f]? = some fn ∧ fn.body = some c ∧ (fn.name == "runtime.NumGoroutine") = false) ∧ Con P f args R
def Ob.ok (P : Program) (o : Ob) : Prop := Fun P o.f o.args (fun r => r.frz = o.res)
def obsOK (P : Program) : List Ob → Prop
  | [] => True
  | o :: l => o.ok P ∧ obsOK P l
def xlist (P : Program) (all : Array Oper) : List Oper → Fr → List AV → Option (Fr × List Ob)
  | [], fr, [] => some (fr, [])
  | [], _, _ :: _ => none
  | o :: l, fr, ans =>
    (gst all fr o).bind fun b => match b with
    | false => (fr.dst o.dst (.tup [])).bind fun f => xlist P all l f ans
    | true => match callOf o.op with
      | some c => match ans with
        | v :: ans => (xargs fr (c.2.map fr.ev) v).bind fun us => (fr.dst o.dst v).bind fun f => (xlist P all l f ans).map fun r => (r.1, ⟨c.1, us, v⟩ :: r.2)
        | [] => none
      | none => (xe P fr o.dst o.op).bind fun f => xlist P all l f ans
theorem callOf_spec {op : Op} {c : FuncId × List Operand} (h : callOf op = some c) : ∃ xs ts, op = .call { callee := .value (.func c.1), args := xs, argTypes := ts } ∧ c.2 = xs.toList := by
  unfold callOf at h
  split at h
  · cases h; exact ⟨_, _, rfl, rfl⟩
  · cases h
theorem AV.frz_scal {r v : AV} (h : r.frz = v) (hv : v.scal = true) : r = v := by
  subst h
  cases r <;> simp only [AV.frz] at hv ⊢ <;> simp [AV.scal] at hv
theorem call_quiet {c : FuncId × List Operand} {v : AV} {us : List AV} (hc : callOf o.op = some c) (ha : xargs fr (c.2.map fr.ev) v = some us) (hob : Fun P c.1 us (fun r => r.frz = v)) : Quiet P o fr v := by
  obtain ⟨xs, ts, ho, hxs⟩ := callOf_spec hc
  obtain ⟨⟨fn, cd, hf, hb, hname⟩, hcon⟩ := hob
  rw [hxs] at ha
  unfold xargs at ha
  split at ha
  · split at ha
    · rename_i hv
      exact Quiet.callS ho hf hb hname ha hcon (fun r hr => AV.frz_scal hr hv) hv
    · cases ha
  · cases ha
    refine Quiet.callF ho hf hb hname (R := fun r => r.frz = v) ?_ (fun r hr => hr)
    rw [List.map_map] at hcon
    exact hcon
theorem gst_spec {all : Array Oper} {b : Bool} (h : gst all fr o = some b) : (o.guard = none ∧ b = true) ∨ (∃ j want g c, o.guard = some (j, want) ∧ (all[j]?).bind (·.dst) = some g ∧ fr.s g = .bool c ∧ b = (c == want)) ∨ ∃ j want g, o.guard = some (j, want) ∧ (all[j]?).bind (·.dst) = some g ∧ fr.s g = .tup [] ∧ b = false := by
  unfold gst at h
  split at h
  · rename_i hg; cases h; exact .inl ⟨hg, rfl⟩
  · rename_i j want hg
    split at h
    · rename_i g hj
      split at h
      · rename_i c hc; cases h; exact .inr (.inl ⟨j, want, g, c, hg, hj, hc, rfl⟩)
      · rename_i hc; cases h; exact .inr (.inr ⟨j, want, g, hg, hj, hc, rfl⟩)
      · cases h
    · cases h
theorem LW.run {all : Array Oper} {Q : Exit → Fr → Prop} : ∀ (l : List Oper) (fr : Fr) (ans : List AV) {fr' : Fr} {obs : List Ob}, xlist P all l fr ans = some (fr', obs) → obsOK P obs → Q .normal fr' → LW P K all l fr Q
  | [], fr, [], fr', obs, h, ho, hq => by
    simp only [xlist, Option.some.injEq, Prod.mk.injEq] at h
    obtain ⟨rfl, rfl⟩ := h
    exact .nil hq
  | [], fr, _ :: _, fr', obs, h, ho, hq => by cases h
  | o :: l, fr, ans, fr', obs, h, hob, hq => by
    simp only [xlist] at h
    obtain ⟨b, hg, h⟩ := Option.bind_eq_some_iff.1 h
    cases b with
    | false =>
      simp only at h
      obtain ⟨f, h1, h2⟩ := Option.bind_eq_some_iff.1 h
      rcases gst_spec hg with ⟨_, h0⟩ | ⟨j, want, g, c, g1, g2, g3, g4⟩ | ⟨j, want, g, g1, g2, g3, g4⟩
      · cases h0
      rotate_left
      · exact LW.unwant0 g1 g2 g3 h1 (LW.run l f ans h2 hob hq)
      · have : want = !c := by revert g4; cases c <;> cases want <;> decide
        subst this
        exact LW.unwant g1 g2 g3 h1 (LW.run l f ans h2 hob hq)
    | true =>
      simp only at h
      have step : ∀ {f : Fr}, OpS P K o fr f → LW P K all l f Q → LW P K all (o :: l) fr Q := by
        intro f h1 h2
        rcases gst_spec hg with ⟨h0, _⟩ | ⟨j, want, g, c, g1, g2, g3, g4⟩ | ⟨j, want, g, g1, g2, g3, g4⟩
        · exact .cons h0 h1 h2
        rotate_left
        · cases g4
        · have : want = c := by revert g4; cases c <;> cases want <;> decide
          subst this
          exact .want g1 g2 g3 h1 h2
      split at h
      · rename_i c hc
        cases ans with
        | nil => cases h
        | cons v ans =>
          simp only at h
          obtain ⟨us, h1, h⟩ := Option.bind_eq_some_iff.1 h
          obtain ⟨f, h2, h⟩ := Option.bind_eq_some_iff.1 h
          obtain ⟨⟨fe, obs'⟩, h3, h4⟩ := Option.map_eq_some_iff.1 h
          simp only [Prod.mk.injEq] at h4
          obtain ⟨rfl, rfl⟩ := h4
          exact step ((call_quiet hc h1 hob.1).step (Fr.Le.refl _) h2) (LW.run l f ans h3 hob.2 hq)
      · obtain ⟨f, h1, h2⟩ := Option.bind_eq_some_iff.1 h
        exact step (xe_sound h1) (LW.run l f ans h2 hob hq)
/-- The heads of a region that draws, in their lexical order, each in the frame that tells just what surely came ahead of it. -/
def xheads (P : Program) (all : Array Oper) (base : Fr) (ds : List Nat) : List Oper → List (List Nat) → List AV → List AV → Option (List AV × List Ob)
  | [], _, [], vs => some (vs, [])
  | o :: l, a :: as, ans, vs =>
    (gst all (base.see ds vs a) o).bind fun b => match b with
    | false => xheads P all base ds l as ans (vs ++ [.tup []])
    | true => match callOf o.op with
      | some c => match ans with
        | v :: ans => (xargs (base.see ds vs a) (c.2.map (base.see ds vs a).ev) v).bind fun us => (xheads P all base ds l as ans (vs ++ [v])).map fun r => (r.1, ⟨c.1, us, v⟩ :: r.2)
        | [] => none
      | none => (xq P (base.see ds vs a) o.op).bind fun v => xheads P all base ds l as ans (vs ++ [v])
  | _, _, _, _ => none
theorem xheads_pre {all : Array Oper} {base : Fr} {ds : List Nat} : ∀ (l : List Oper) (as : List (List Nat)) (ans vs : List AV) {out : List AV} {obs : List Ob}, xheads P all base ds l as ans vs = some (out, obs) → ∃ more, out = vs ++ more ∧ more.length = l.length
  | [], as, [], vs, out, obs, h => by
    simp only [xheads, Option.some.injEq, Prod.mk.injEq] at h
    exact ⟨[], by simp [h.1], rfl⟩
  | [], as, _ :: _, vs, out, obs, h => by simp [xheads] at h
  | o :: l, [], ans, vs, out, obs, h => by simp [xheads] at h
  | o :: l, a :: as, ans, vs, out, obs, h => by
    simp only [xheads] at h
    obtain ⟨b, hg, h⟩ := Option.bind_eq_some_iff.1 h
    have fin : ∀ {ans : List AV} {v : AV} {obs : List Ob}, xheads P all base ds l as ans (vs ++ [v]) = some (out, obs) → ∃ more, out = vs ++ more ∧ more.length = (o :: l).length := by
      intro ans v obs h
      obtain ⟨more, e1, e2⟩ := xheads_pre l as ans _ h
      exact ⟨v :: more, by rw [e1]; simp, by simp [e2]⟩
    cases b with
    | false => exact fin h
    | true =>
      simp only at h
      split at h
      · split at h
        · obtain ⟨us, h1, h⟩ := Option.bind_eq_some_iff.1 h
          obtain ⟨⟨fe, obs'⟩, h3, h4⟩ := Option.map_eq_some_iff.1 h
          simp only [Prod.mk.injEq] at h4
          obtain ⟨rfl, rfl⟩ := h4
          exact fin h3
        · cases h
      · obtain ⟨v, h1, h2⟩ := Option.bind_eq_some_iff.1 h
        exact fin h2
theorem see_pre {base : Fr} {ds : List Nat} {vs more : List AV} {a : List Nat} (ha : ∀ j ∈ a, j < vs.length) : base.see ds (vs ++ more) a = base.see ds vs a := by
  unfold Fr.see
  simp only [Fr.mk.injEq, and_true]
  funext t
  by_cases h1 : ds.contains t = true
  · simp only [h1, if_true]
    by_cases h2 : a.contains (ds.idxOf t) = true
    · have := ha _ (by simpa using h2)
      simp only [h2, if_true, List.getD_eq_getElem?_getD]
      rw [List.getElem?_append_left this]
    · simp only [h2]; rfl
  · simp only [h1]; rfl
theorem xheads_sound {all : Array Oper} {base : Fr} {ds : List Nat} : ∀ (l : List Oper) (as : List (List Nat)) (ans vs : List AV) {out : List AV} {obs : List Ob}, xheads P all base ds l as ans vs = some (out, obs) → obsOK P obs →
    (∀ i a, as[i]? = some a → ∀ j ∈ a, j < vs.length + i) → ∀ i o, l[i]? = some o → HeadOK P all (base.see ds out (as.getD i [])) o (out.getD (vs.length + i) .undef)
  | [], as, ans, vs, out, obs, h, hob, hA, i, o, hi => by simp at hi
  | o :: l, [], ans, vs, out, obs, h, hob, hA, i, o', hi => by simp [xheads] at h
  | o :: l, a :: as, ans, vs, out, obs, h, hob, hA, i, o', hi => by
    obtain ⟨more, e1, e2⟩ := xheads_pre _ _ _ _ h
    simp only [xheads] at h
    obtain ⟨b, hg, h⟩ := Option.bind_eq_some_iff.1 h
    have hsee : base.see ds out a = base.see ds vs a := by rw [e1]; exact see_pre fun j hj => by have := hA 0 a rfl j hj; omega
    have fin : ∀ {ans : List AV} {v : AV} {obs : List Ob}, xheads P all base ds l as ans (vs ++ [v]) = some (out, obs) → obsOK P obs → HeadOK P all (base.see ds vs a) o v → HeadOK P all (base.see ds out ((a :: as).getD i [])) o' (out.getD (vs.length + i) .undef) := by
      intro ans v obs h hob hh
      obtain ⟨more', e3, e4⟩ := xheads_pre l as ans _ h
      cases i with
      | zero =>
        simp only [List.getElem?_cons_zero, Option.some.injEq] at hi
        subst hi
        have : out.getD (vs.length + 0) .undef = v := by rw [e3]; simp
        rw [this]
        show HeadOK P all (base.see ds out a) o v
        rw [hsee]
        exact hh
      | succ i =>
        have := xheads_sound l as ans (vs ++ [v]) h hob (fun i a ha j hj => by have := hA (i + 1) a (by simpa using ha) j hj; simp; omega) i o' (by simpa using hi)
        rw [show (vs ++ [v]).length + i = vs.length + (i + 1) by simp; omega] at this
        exact this
    have head : ∀ {v : AV}, Quiet P o (base.see ds vs a) v → b = true → HeadOK P all (base.see ds vs a) o v := by
      intro v hq hb
      unfold HeadOK
      rcases gst_spec hg with ⟨h0, _⟩ | ⟨j, want, g, c, g1, g2, g3, g4⟩ | ⟨j, want, g, g1, g2, g3, g4⟩
      · simp only [h0]; exact hq
      · simp only [g1]
        exact ⟨g, g2, .inl ⟨c, g3, fun _ => hq, fun hne => absurd (by simpa [hb] using g4.symm) hne⟩⟩
      · rw [hb] at g4; cases g4
    cases b with
    | false =>
      simp only at h
      refine fin h hob ?_
      unfold HeadOK
      rcases gst_spec hg with ⟨_, h0⟩ | ⟨j, want, g, c, g1, g2, g3, g4⟩ | ⟨j, want, g, g1, g2, g3, g4⟩
      · cases h0
      · simp only [g1]
        exact ⟨g, g2, .inl ⟨c, g3, fun he => absurd g4 (by simp [he]), fun _ => trivial⟩⟩
      · simp only [g1]
        exact ⟨g, g2, .inr ⟨g3, trivial⟩⟩
    | true =>
      simp only at h
      split at h
      · rename_i c hc
        cases ans with
        | nil => cases h
        | cons v ans =>
          simp only at h
          obtain ⟨us, h1, h⟩ := Option.bind_eq_some_iff.1 h
          obtain ⟨⟨fe, obs'⟩, h3, h4⟩ := Option.map_eq_some_iff.1 h
          simp only [Prod.mk.injEq] at h4
          obtain ⟨rfl, rfl⟩ := h4
          exact fin h3 hob.2 (head (call_quiet hc h1 hob.1) rfl)
      · obtain ⟨v, h1, h2⟩ := Option.bind_eq_some_iff.1 h
        exact fin h2 hob (head (xq_sound h1) rfl)
/-- A region that draws its order: the heads, and the tail behind them. -/
theorem AW.drawX {id n : Nat} {ops : Array Oper} {A : List (List Nat)} {base : Fr} {ans vs : List AV} {obs : List Ob} {Q : Exit → Fr → Prop} (hm : P.follows .mixedOrders = true) (hB : drawB ops n A = true) (hd : ∀ d ∈ headSlots ops n, d < base.n)
    (hx : xheads P ops base (headSlots ops n) (ops.toList.take n) A ans [] = some (vs, obs)) (hob : obsOK P obs) (ht : LW P K ops (ops.toList.drop n) (base.see (headSlots ops n) vs (List.range n)) Q) : AW P K (.region id ops true) base Q := by
  have H := DrawOK.of hB
  refine AW.draw (vs := vs) hm hB hd (fun i o hi ho => ?_) ht
  have := xheads_sound _ _ _ _ hx hob (fun i a ha j hj => ?_) i o (by rw [List.getElem?_take, if_pos hi]; simpa using ho)
  · simpa using this
  · have hlen : A.length = ops.size := by simp only [drawB, Bool.and_eq_true, decide_eq_true_eq] at hB; exact hB.1.1.1.1.2
    have hi' : i < ops.size := by rw [← hlen]; exact (List.getElem?_eq_some_iff.1 ha).1
    have := (H.anc i hi' j (by rw [List.getD_eq_getElem?_getD, ha]; exact hj)).1
    simpa using this
end
end Go.Proofs.Ytgoajlgkbcongaa.Vm
end
