/- Plain laws of dce, second part (what dce leaves is sound, and dce finds nothing more to do in it), and the contract of DceTwice, for every unit within the bound. -/
import Derived.Test.YtgoajlgkbcongaaMaG
section
set_option linter.unusedVariables false
set_option linter.unusedSimpArgs false
set_option maxRecDepth 100000
namespace Go.Proofs.Ytgoajlgkbcongaa.Vm
open Go Go.RowKit Go.Proofs
theorem need_get {f : Fn} {N k : Nat} (hk : k < N) : (needOf f N).getD k false = dec (NeededP f k) := by
  unfold needOf
  rw [List.getD_eq_getElem?_getD, List.getElem?_map, List.getElem?_range hk]; rfl
theorem dceIns_id {need : List Bool} {x : Ins} (h : goneB need x = false) : dceIns need x = x := by unfold dceIns; rw [h]; rfl
theorem gone_46 {need : List Bool} {x : Ins} (h : x.op ≠ 46) : goneB need x = false := by
  unfold goneB; rw [if_neg (by simpa using h)]
theorem dceRow_has {need : List Bool} {l : List Ins} {x : Ins} (h : x ∈ l) (hd : dropB need x = false) : dceIns need x ∈ dceRow need l := by
  unfold dceRow
  rw [List.mem_map]
  exact ⟨x, by rw [List.mem_filter]; exact ⟨h, by simp [hd]⟩, rfl⟩
theorem allIns_mem {f : Fn} {x : Ins} : x ∈ allIns f ↔ ∃ b ∈ f.blocks, x ∈ b.ins := by unfold allIns; simp [List.mem_flatMap]
section
variable {f : Fn} {N : Nat}
/-- What dce keeps and does not change. -/
theorem kept_same {need : List Bool} {x : Ins} (hx : x ∈ allIns f) (hd : dropB need x = false) (h46 : x.op ≠ 46) : x ∈ allIns (dceFnW need f) := by
  rw [allIns_mem] at hx ⊢
  obtain ⟨b, hb, hx⟩ := hx
  refine ⟨dceBlk need b, by unfold dceFnW; exact List.mem_map_of_mem hb, ?_⟩
  have := dceRow_has hx hd
  rwa [dceIns_id (gone_46 h46)] at this
theorem drop_no {need : List Bool} {x : Ins} (h : dceMakes x.op = false) : dropB need x = false := by unfold dropB; rw [h]; rfl
theorem drop_need {need : List Bool} {x : Ins} (h : dceMakes x.op = true) : dropB need x = !(need.getD x.dst.toNat false) := by unfold dropB; rw [h]; rfl
theorem insRoots_mem {x : Ins} {v : Int} (h : v ∈ insRoots x) : dceMakes x.op = false ∧ x.op ≠ 46 ∧ v ∈ dceLooks x := by
  unfold insRoots at h
  split at h
  · simp at h
  · rename_i h1
    split at h
    · rename_i h2; exact ⟨by simpa using h1, by simpa using h2, h⟩
    · simp at h
theorem insRoots_mk {x : Ins} {v : Int} (h1 : dceMakes x.op = false) (h2 : x.op ≠ 46) (h : v ∈ dceLooks x) : v ∈ insRoots x := by
  unfold insRoots
  rw [h1, if_neg (by simp), if_pos (by simpa using h2)]
  exact h
theorem roots_ins {x : Ins} {v : Int} (hx : x ∈ allIns f) (h1 : dceMakes x.op = false) (h2 : x.op ≠ 46) (h : v ∈ dceLooks x) : v ∈ roots f := by
  rw [allIns_mem] at hx
  obtain ⟨b, hb, hx⟩ := hx
  unfold roots
  rw [List.mem_flatMap]
  refine ⟨b, hb, ?_⟩
  unfold blkRoots
  rw [List.mem_append, List.mem_flatMap]
  exact .inl ⟨x, hx, insRoots_mk h1 h2 h⟩
theorem roots_term {b : Block} (hb : b ∈ f.blocks) (hk : b.term.kind ≠ 1) : b.term.a ∈ roots f := by
  unfold roots
  rw [List.mem_flatMap]
  refine ⟨b, hb, ?_⟩
  unfold blkRoots termRoots
  rw [List.mem_append, if_pos (by simpa using hk)]
  exact .inr (by simp)
theorem roots_cases {v : Int} (h : v ∈ roots f) : (∃ x ∈ allIns f, dceMakes x.op = false ∧ x.op ≠ 46 ∧ v ∈ dceLooks x) ∨ ∃ b ∈ f.blocks, b.term.kind ≠ 1 ∧ v = b.term.a := by
  unfold roots at h
  rw [List.mem_flatMap] at h
  obtain ⟨b, hb, h⟩ := h
  unfold blkRoots at h
  rw [List.mem_append, List.mem_flatMap] at h
  rcases h with ⟨x, hx, h⟩ | h
  · exact .inl ⟨x, allIns_mem.2 ⟨b, hb, hx⟩, insRoots_mem h⟩
  · unfold termRoots at h
    split at h
    · rename_i h1; exact .inr ⟨b, hb, by simpa using h1, by simpa using h⟩
    · simp at h
theorem byL_has {pre : List Ins} {d : Nat} {v : Int} : v ∈ byL pre d ↔ ∃ x ∈ pre, dceMakes x.op = true ∧ x.dst = (d : Int) ∧ v ∈ dceLooks x := by
  unfold byL
  simp [List.mem_flatMap, List.mem_filter, and_assoc]
/-- What is needed is needed in what is left. -/
theorem needed_kept (hf : DceOk f N) {k : Nat} (h : NeededP f k) : NeededP (dceFnW (needOf f N) f) k := by
  rcases h with h | ⟨x, hx, hs, hk⟩
  · left
    induction h with
    | root h =>
      refine .root ?_
      rcases roots_cases h with ⟨x, hx, h1, h2, h3⟩ | ⟨b, hb, h1, h2⟩
      · exact roots_ins (kept_same hx (drop_no h1) h2) h1 h2 h3
      · rw [h2]
        exact roots_term (b := dceBlk (needOf f N) b) (by unfold dceFnW; exact List.mem_map_of_mem hb) h1
    | @step u v hu hv ih =>
      refine .step ih ?_
      rw [byL_has] at hv ⊢
      obtain ⟨x, hx, h1, h2, h3⟩ := hv
      have hm := dceMakes_facts h1
      refine ⟨x, kept_same hx ?_ (by omega), h1, h2, h3⟩
      obtain ⟨b, hb, hxb⟩ := allIns_mem.1 hx
      obtain ⟨d0, d1⟩ := hf.dst b hb x hxb h1
      rw [drop_need h1, h2, Int.toNat_natCast, need_get (by omega), dec_true.2 (.inl hu)]; rfl
  · right
    have h1 : dceMakes x.op = false ∧ x.op ≠ 46 := by
      unfold stayHere at hs
      split at hs
      · cases hs
      · rename_i h1
        split at hs
        · rename_i h2; exact ⟨by simpa using h1, by simpa using h2⟩
        · cases hs
    exact ⟨x, kept_same hx (drop_no h1.1) h1.2, hs, hk⟩
theorem row_fix {need : List Bool} {l : List Ins} (h1 : ∀ x ∈ l, dropB need x = false) (h2 : ∀ x ∈ l, goneB need x = false) : dceRow need l = l := by
  unfold dceRow
  rw [List.filter_eq_self.2 (fun x hx => by simp [h1 x hx])]
  have : l.map (dceIns need) = l.map id := List.map_congr_left fun x hx => dceIns_id (h2 x hx)
  rw [this, List.map_id]
theorem dce_again (hf : DceOk f N) (h46 : ∀ b ∈ f.blocks, ∀ x ∈ b.ins, (x.op == 46) = true → x.a < (N : Int)) :
    dceFnW (needOf (dceFnW (needOf f N) f) N) (dceFnW (needOf f N) f) = dceFnW (needOf f N) f := by
  have hb : ∀ b ∈ f.blocks, dceBlk (needOf (dceFnW (needOf f N) f) N) (dceBlk (needOf f N) b) = dceBlk (needOf f N) b := by
    intro b hb
    have : dceRow (needOf (dceFnW (needOf f N) f) N) (dceRow (needOf f N) b.ins) = dceRow (needOf f N) b.ins := by
      refine row_fix (fun x' hx' => ?_) (fun x' hx' => ?_)
      · obtain ⟨x, hx, rfl, hd⟩ := dceRow_mem hx'
        obtain ⟨s1, s2, _⟩ := dceIns_same (needOf f N) x
        cases hm : dceMakes x.op with
        | false => exact drop_no (by rw [s1]; exact hm)
        | true =>
          obtain ⟨d0, d1⟩ := hf.dst b hb x hx hm
          rw [drop_need (by rw [s1]; exact hm), s2]
          rw [drop_need hm] at hd
          rw [need_get (by omega)] at hd ⊢
          rw [dec_true.2 (needed_kept hf (dec_true.1 (by simpa using hd)))]; rfl
      · obtain ⟨x, hx, rfl, hd⟩ := dceRow_mem hx'
        obtain ⟨s1, s2, _⟩ := dceIns_same (needOf f N) x
        by_cases h : x.op = 46
        · cases hg : goneB (needOf f N) x with
          | true =>
            have : (dceIns (needOf f N) x).a = -1 := by unfold dceIns; rw [hg]; rfl
            unfold goneB
            rw [this]; simp
          | false =>
            rw [dceIns_id hg]
            unfold goneB at hg ⊢
            rw [if_pos (by simpa using h)] at hg ⊢
            by_cases ha : x.a ≥ 0
            · rw [if_pos (by simpa using ha)] at hg ⊢
              have := h46 b hb x hx (by simpa using h)
              rw [need_get (by omega)] at hg ⊢
              rw [dec_true.2 (needed_kept hf (dec_true.1 (by simpa using hg)))]; rfl
            · rw [if_neg (by simpa using ha)]
        · exact gone_46 (by rw [s1]; exact h)
    unfold dceBlk at this ⊢
    simp only [this]
  have : (dceFnW (needOf f N) f).blocks = f.blocks.map (dceBlk (needOf f N)) := rfl
  show { (dceFnW (needOf f N) f) with blocks := (f.blocks.map (dceBlk (needOf f N))).map (dceBlk (needOf (dceFnW (needOf f N) f) N)) } = dceFnW (needOf f N) f
  rw [List.map_map]
  have h2 : f.blocks.map (dceBlk (needOf (dceFnW (needOf f N) f) N) ∘ dceBlk (needOf f N)) = f.blocks.map (dceBlk (needOf f N)) := List.map_congr_left hb
  rw [h2]; rfl
end
theorem dceUnit_again {u : Unt} (h : DceU u) : dceUnit (dceUnit u) = dceUnit u := by
  unfold dceUnit
  simp only [List.map_map]
  have : u.funcs.map (dceFn ∘ dceFn) = u.funcs.map dceFn := List.map_congr_left fun f hf => by
    obtain ⟨h1, h2⟩ := h.fn f hf
    exact dce_again h1 h2
  rw [this]
/-! ### What is left is sound -/
/-- Where an instruction stands when dce has run. -/
def newAt (need : List Bool) (l : List Ins) (i : Nat) : Nat := (dceRow need (l.take i)).length
theorem dceRow_app (need : List Bool) (a b : List Ins) : dceRow need (a ++ b) = dceRow need a ++ dceRow need b := by unfold dceRow; rw [List.filter_append, List.map_append]
theorem newAt_get {need : List Bool} {l : List Ins} {i : Nat} {x : Ins} (h : l[i]? = some x) (hd : dropB need x = false) : (dceRow need l)[newAt need l i]? = some (dceIns need x) ∧ (dceRow need l).take (newAt need l i) = dceRow need (l.take i) := by
  have h1 : l = l.take i ++ l.drop i := (List.take_append_drop i l).symm
  have h2 : l.drop i = x :: l.drop (i + 1) := by
    have hi := (List.getElem?_eq_some_iff.1 h)
    obtain ⟨hi, e⟩ := hi
    rw [List.drop_eq_getElem_cons hi, e]
  have h3 : dceRow need l = dceRow need (l.take i) ++ dceIns need x :: dceRow need (l.drop (i + 1)) := by
    conv => lhs; rw [h1]
    rw [dceRow_app, h2, dceRow_cons, hd]; rfl
  unfold newAt
  constructor
  · rw [h3, List.getElem?_append_right (Nat.le_refl _), Nat.sub_self]; rfl
  · conv => lhs; rw [h3]
    rw [List.take_left']
    rfl
theorem newAt_lt {need : List Bool} {l : List Ins} {i j : Nat} {x : Ins} (h : l[i]? = some x) (hd : dropB need x = false) (hij : i < j) : newAt need l i < newAt need l j := by
  unfold newAt
  have h1 : l.take j = l.take (i + 1) ++ (l.take j).drop (i + 1) := by
    conv => lhs; rw [← List.take_append_drop (i + 1) (l.take j)]
    rw [List.take_take, Nat.min_eq_left (by omega)]
  rw [h1, dceRow_app, take_one h, dceRow_app, dceRow_cons, hd]
  simp
theorem newAt_all (need : List Bool) {l : List Ins} {n : Nat} (h : l.length ≤ n) : newAt need l n = (dceRow need l).length := by
  unfold newAt; rw [List.take_of_length_le h]
theorem from_newAt {need : List Bool} {l : List Ins} {k : Nat} {x' : Ins} (h : (dceRow need l)[k]? = some x') : ∃ j x, l[j]? = some x ∧ x' = dceIns need x ∧ dropB need x = false ∧ k = newAt need l j := by
  obtain ⟨j, x, h1, h2, h3, h4⟩ := dceRow_from need l k x' h
  refine ⟨j, x, h1, h2, h3, ?_⟩
  unfold newAt
  rw [← h4, List.length_take]
  have := (List.getElem?_eq_some_iff.1 h).1
  omega
section
variable {f : Fn} {need : List Bool}
theorem dceFn_block {b : Nat} {blk' : Block} (h : (dceFnW need f).blocks[b]? = some blk') : ∃ blk, f.blocks[b]? = some blk ∧ blk' = dceBlk need blk := by
  unfold dceFnW at h
  simp only at h
  rw [List.getElem?_map] at h
  cases hb : f.blocks[b]? with
  | none => rw [hb] at h; cases h
  | some blk => rw [hb] at h; cases h; exact ⟨blk, rfl, rfl⟩
theorem dceFn_block_mk {b : Nat} {blk : Block} (h : f.blocks[b]? = some blk) : (dceFnW need f).blocks[b]? = some (dceBlk need blk) := by
  unfold dceFnW
  simp only
  rw [List.getElem?_map, h]; rfl
theorem made_moved {v : Int} {b i : Nat} {blk : Block} {z : Ins} (h : madeOf f v = some (b, i)) (hb : f.blocks[b]? = some blk) (hz : blk.ins[i]? = some z) (hd : dropB need z = false) :
    madeOf (dceFnW need f) v = some (b, newAt need blk.ins i) := by
  have hF := madeOf_some.1 h
  obtain ⟨n1, n2⟩ := newAt_get hz hd
  refine madeOf_some.2 ⟨⟨dceBlk need blk, dceIns need z, dceFn_block_mk hb, n1, ?_⟩, fun b' blk' hlt hb' x' hx' => ?_, fun blk' hb' x' hx' => ?_⟩
  · obtain ⟨blk2, x2, e1, e2, e3⟩ := hF.at_
    rw [hb] at e1; cases e1
    rw [hz] at e2; cases e2
    rw [dce_makes]; exact e3
  · obtain ⟨b0, hb0, rfl⟩ := dceFn_block hb'
    obtain ⟨x, hx, rfl, _⟩ := dceRow_mem hx'
    rw [dce_makes]
    exact hF.before b' b0 hlt hb0 x hx
  · rw [dceFn_block_mk hb] at hb'; cases hb'
    have hx' : x' ∈ (dceRow need blk.ins).take (newAt need blk.ins i) := hx'
    rw [n2] at hx'
    obtain ⟨x, hx, rfl, _⟩ := dceRow_mem hx'
    rw [dce_makes]
    exact hF.here blk hb x hx
theorem there_some {t : List (List Bool)} {v : Int} {b i : Nat} (h : thereB f t v b i = true) : ∃ p, madeOf f v = some p ∧ ((p.1 = b ∧ p.2 < i) ∨ (p.1 ≠ b ∧ tabAt t p.1 b = true)) := by
  unfold thereB at h
  cases hm : madeOf f v with
  | none => rw [hm] at h; cases h
  | some p =>
    rw [hm] at h
    simp only at h
    refine ⟨p, rfl, ?_⟩
    by_cases hp : p.1 = b
    · rw [if_pos (by simp [hp])] at h
      exact .inl ⟨hp, by simpa using h⟩
    · rw [if_neg (by simp; omega)] at h
      exact .inr ⟨hp, h⟩
theorem there_mk {t : List (List Bool)} {v : Int} {b i : Nat} {p : Nat × Nat} (hm : madeOf f v = some p) (h : (p.1 = b ∧ p.2 < i) ∨ (p.1 ≠ b ∧ tabAt t p.1 b = true)) : thereB f t v b i = true := by
  unfold thereB
  rw [hm]
  rcases h with ⟨h1, h2⟩ | ⟨h1, h2⟩
  · simp only
    rw [if_pos (by simp [h1])]; simpa using h2
  · simp only
    rw [if_neg (by simp; omega)]; exact h2
/-- The maker of what is needed stays. -/
theorem there_moved {t : List (List Bool)} {v : Int} {b i : Nat} {blk : Block} (hbl : f.blocks[b]? = some blk) (h : thereB f t v b i = true)
    (hk : ∀ bb z, bb ∈ f.blocks → z ∈ bb.ins → makesOf z = v → dropB need z = false) : thereB (dceFnW need f) t v b (newAt need blk.ins i) = true := by
  obtain ⟨p, hm, hp⟩ := there_some h
  obtain ⟨pb, pi⟩ := p
  obtain ⟨blk2, z, e1, e2, e3⟩ := (madeOf_some.1 hm).at_
  have hd := hk blk2 z (List.mem_of_getElem? e1) (List.mem_of_getElem? e2) e3
  refine there_mk (made_moved hm e1 e2 hd) ?_
  rcases hp with ⟨h1, h2⟩ | ⟨h1, h2⟩
  · simp only at h1 h2
    subst h1
    rw [hbl] at e1; cases e1
    exact .inl ⟨rfl, newAt_lt e2 hd h2⟩
  · exact .inr ⟨h1, h2⟩
end
theorem uses_looks {x : Ins} {v : Int} (h35 : x.op ≠ 35) (h46 : x.op ≠ 46) (h : v ∈ usesOf x) : v ∈ dceLooks x := by
  unfold usesOf at h
  split at h
  · rename_i h1
    unfold one62 at h1
    simp only [Bool.or_eq_true, beq_iff_eq] at h1
    unfold dceLooks
    rw [if_neg (by unfold two101; simp; omega), if_pos (by unfold one101; simp; omega)]
    exact h
  split at h
  · rename_i h1
    unfold dceLooks
    rw [if_pos (by unfold two101; simp at h1 ⊢; omega)]
    exact h
  split at h
  · rename_i h1
    unfold all62 at h1
    simp only [Bool.or_eq_true, beq_iff_eq] at h1
    unfold dceLooks
    rw [if_neg (by unfold two101; simp; omega), if_neg (by unfold one101; simp; omega), if_pos (by unfold all101; simp; omega)]
    exact h
  split at h
  · rename_i h1
    exact absurd (by simpa using h1) h46
  split at h
  · rename_i h1
    unfold dceLooks
    rw [if_pos (by unfold two101; simp at h1 ⊢; omega)]
    exact h
  · simp at h
theorem uses_index {need : List Bool} {x : Ins} {k : Nat} {y : Int} (h : (usesOf (dceIns need x))[k]? = some y) : (usesOf x)[k]? = some y ∧ goneB need x = false := by
  cases hg : goneB need x with
  | false => rw [dceIns_id hg] at h; exact ⟨h, rfl⟩
  | true =>
    have h46 : (x.op == 46) = true := by
      unfold goneB at hg
      split at hg
      · assumption
      · cases hg
    have : (dceIns need x).a = -1 := by unfold dceIns; rw [hg]; rfl
    rw [bind_uses (by rw [(dceIns_same need x).1]; exact h46), this] at h
    simp at h
theorem marks_same (need : List Bool) (l : List Ins) : (dceRow need l).filterMap markOf = l.filterMap markOf := by
  induction l with
  | nil => rfl
  | cons x l ih =>
    rw [dceRow_cons]
    cases hd : dropB need x with
    | true =>
      rw [if_pos rfl, ih, List.filterMap_cons]
      have : markOf x = none := by
        unfold markOf
        rw [if_neg]
        unfold dropB at hd
        split at hd
        · rename_i h1; have := dceMakes_facts h1; simp; omega
        · cases hd
      rw [this]
    | false =>
      rw [if_neg (by simp), List.filterMap_cons, List.filterMap_cons, ih]
      have : markOf (dceIns need x) = markOf x := by
        unfold markOf
        rw [(dceIns_same need x).1, (dceIns_same need x).2.2.2.2.1]
      rw [this]
theorem dce_snd {u : Unt} {n : Nat} {f : Fn} {N : Nat} (hF : FOk u n f) (hS : SndFn f) (hf : DceOk f N) (h46 : ∀ b ∈ f.blocks, ∀ x ∈ b.ins, (x.op == 46) = true → x.a < (N : Int)) : SndFn (dceFnW (needOf f N) f) := by
  have hsz := hf.size
  have hin : ∀ b ∈ f.blocks, ∀ x ∈ b.ins, badDst f x = false ∧ x.op ≠ 35 ∧ (∀ y ∈ usesOf x, 0 ≤ y ∧ y < f.size) := by
    intro b hb x hx
    obtain ⟨i, hi⟩ := List.getElem?_of_mem hb
    obtain ⟨k, hk⟩ := List.getElem?_of_mem hx
    exact ⟨(hF.fn.ins i b hi k x hk).dst, no35 ((hS.blks i b hi).ins k x hk), (hF.fn.ins i b hi k x hk).uses⟩
  have keep : ∀ v : Int, 0 ≤ v → v < (N : Int) → NeededP f v.toNat → ∀ bb z, bb ∈ f.blocks → z ∈ bb.ins → makesOf z = v → dropB (needOf f N) z = false := by
    intro v v0 v1 hv bb z hbb hz hm
    cases hmk : dceMakes z.op with
    | false => exact drop_no hmk
    | true =>
      obtain ⟨k1, k2, _⟩ := hin bb hbb z hz
      rw [makes_dst hmk k2] at hm
      rw [drop_need hmk, hm, need_get (by omega), dec_true.2 hv]; rfl
  have wants : ∀ b ∈ f.blocks, ∀ x ∈ b.ins, dropB (needOf f N) x = false → goneB (needOf f N) x = false → ∀ y ∈ usesOf x, 0 ≤ y ∧ y < (N : Int) ∧ NeededP f y.toNat := by
    intro b hb x hx hd hg y hy
    obtain ⟨k1, k2, k3⟩ := hin b hb x hx
    obtain ⟨y0, y1⟩ := k3 y hy
    refine ⟨y0, by omega, ?_⟩
    have hyn : ((y.toNat : Nat) : Int) = y := Int.toNat_of_nonneg y0
    by_cases h : x.op = 46
    · rw [bind_uses (by simpa using h)] at hy
      split at hy
      · rename_i ha
        have hya : y = x.a := by simpa using hy
        unfold goneB at hg
        rw [if_pos (by simpa using h), if_pos ha] at hg
        subst hya
        rw [need_get (by omega)] at hg
        exact dec_true.1 (by simpa using hg)
      · simp at hy
    · have hl := uses_looks k2 h hy
      cases hmk : dceMakes x.op with
      | false => exact .inl (.root (by rw [hyn]; exact roots_ins (allIns_mem.2 ⟨b, hb, hx⟩) hmk h hl))
      | true =>
        obtain ⟨d0, d1⟩ := hf.dst b hb x hx hmk
        rw [drop_need hmk, need_get (by omega)] at hd
        have hn : NeededP f x.dst.toNat := dec_true.1 (by simpa using hd)
        have hxn : ((x.dst.toNat : Nat) : Int) = x.dst := Int.toNat_of_nonneg d0
        rcases hn with hn | ⟨z, hz, hs, hzd⟩
        · exact .inl (.step hn (by rw [hyn]; exact byL_has.2 ⟨x, allIns_mem.2 ⟨b, hb, hx⟩, hmk, hxn.symm, hl⟩))
        · exfalso
          obtain ⟨bz, hbz, hzz⟩ := allIns_mem.1 hz
          obtain ⟨i, hi⟩ := List.getElem?_of_mem hb
          obtain ⟨k, hk⟩ := List.getElem?_of_mem hx
          obtain ⟨i2, hi2⟩ := List.getElem?_of_mem hbz
          obtain ⟨k2', hk2⟩ := List.getElem?_of_mem hzz
          have hst : dceMakes z.op = false ∧ stayOp z.op = true := by
            unfold stayHere at hs
            split at hs
            · cases hs
            · rename_i h1
              split at hs
              · split at hs
                · split at hs
                  · exact ⟨by simpa using h1, hs⟩
                  · cases hs
                · cases hs
              · cases hs
          have hmz : makesOf z = x.dst := by
            unfold makesOf
            rw [if_neg]
            · rw [hzd]; exact hxn
            · have := hst.2
              unfold stayOp at this
              simp only [Bool.or_eq_true, beq_iff_eq] at this
              unfold noDst; simp; omega
          have hmx := makes_dst hmk k2
          have e1 := ((hS.blks i b hi).ins k x hk).made (by rw [hmx]; exact d0)
          have e2 := ((hS.blks i2 bz hi2).ins k2' z hk2).made (by rw [hmz]; exact d0)
          rw [hmx] at e1; rw [hmz, e1] at e2
          cases e2
          rw [hi] at hi2; cases hi2
          rw [hk] at hk2; cases hk2
          rw [hst.1] at hmk; cases hmk
  refine ⟨fun b blk' hb' => ?_, ?_⟩
  · obtain ⟨blk, hb, rfl⟩ := dceFn_block hb'
    have hbm := List.mem_of_getElem? hb
    have hB := hS.blks b blk hb
    refine ⟨by rw [dceFn_terms]; exact hB.reach, fun i' x' hx' => ?_, ?_⟩
    · obtain ⟨i, x, hx, rfl, hd, rfl⟩ := from_newAt hx'
      have hxm := List.mem_of_getElem? hx
      have hI := hB.ins i x hx
      refine ⟨by rw [(dceIns_same _ x).1]; exact hI.op, fun k y hy => ?_, fun hm => ?_⟩
      · obtain ⟨hy, hg⟩ := uses_index hy
        have hU := hI.uses k y hy
        obtain ⟨y0, y1, hn⟩ := wants blk hbm x hxm hd hg y (List.mem_of_getElem? hy)
        have hkp := keep y y0 y1 hn
        rw [dceIns_id hg]
        unfold useB at hU ⊢
        rw [dceFn_terms]
        by_cases h47 : (x.op == 47) = true
        · rw [if_pos h47] at hU ⊢
          cases hw : ((waysOf (termsOf f))[b]?).bind (·[k]?) with
          | none => rw [hw] at hU; cases hU
          | some p =>
            rw [hw] at hU
            simp only at hU ⊢
            cases hp : f.blocks[p.toNat]? with
            | none =>
              rw [hp] at hU
              obtain ⟨q, hm, hq⟩ := there_some hU
              obtain ⟨pb, pi⟩ := q
              obtain ⟨blk2, z, e1, e2, e3⟩ := (madeOf_some.1 hm).at_
              have hd2 := hkp blk2 z (List.mem_of_getElem? e1) (List.mem_of_getElem? e2) e3
              have hpn : (dceFnW (needOf f N) f).blocks[p.toNat]? = none := by unfold dceFnW; simp only; rw [List.getElem?_map, hp]; rfl
              rw [hpn]
              refine there_mk (made_moved hm e1 e2 hd2) ?_
              rcases hq with ⟨h1, h2⟩ | ⟨h1, h2⟩
              · simp at h2
              · exact .inr ⟨h1, h2⟩
            | some bp =>
              rw [hp] at hU
              rw [dceFn_block_mk hp]
              have := there_moved hp hU hkp
              simp only [Option.map_some, Option.getD_some] at this ⊢
              rw [newAt_all _ (Nat.le_refl _)] at this
              exact this
        · rw [if_neg h47] at hU ⊢
          exact there_moved hb hU hkp
      · rw [dce_makes] at hm ⊢
        exact made_moved (hI.made hm) hb hx hd
    · have hT := hB.term
      unfold badEnd at hT ⊢
      show (if (blk.term.kind != 1) = true then (if decide (blk.term.a ≥ 0) = true then !thereB (dceFnW (needOf f N) f) (tableOf (termsOf (dceFnW (needOf f N) f))) blk.term.a b (dceRow (needOf f N) blk.ins).length else false) else false) = false
      rw [dceFn_terms]
      by_cases hk : (blk.term.kind != 1) = true
      · rw [if_pos hk] at hT ⊢
        by_cases ha : decide (blk.term.a ≥ 0) = true
        · rw [if_pos ha] at hT ⊢
          have ha0 : 0 ≤ blk.term.a := by simpa using ha
          have hkn : blk.term.kind ≠ 1 := by simpa using hk
          have hlt := hf.term blk hbm hkn
          have hn : NeededP f blk.term.a.toNat := .inl (.root (by rw [Int.toNat_of_nonneg ha0]; exact roots_term hbm hkn))
          have := there_moved (need := needOf f N) hb (by simpa using hT) (keep _ ha0 hlt hn)
          rw [newAt_all _ (Nat.le_refl _)] at this
          rw [this]; rfl
        · rw [if_neg ha]
      · rw [if_neg hk]
  · have : (dceFnW (needOf f N) f).blocks.flatMap marksB = f.blocks.flatMap marksB := by
      unfold dceFnW
      simp only
      rw [List.flatMap_map]
      refine congrArg (fun g => List.flatMap g f.blocks) (funext fun b => ?_)
      exact marks_same _ _
    rw [this]; exact hS.marks
theorem dce_sound {u : Unt} (hm : Vm.Modest u) (h : SoundP u) : SoundP (dceUnit u) where
  may := dce_may h.may
  fn := by
    intro n f' hf
    change (u.funcs.map dceFn)[n]? = some f' at hf
    rw [List.getElem?_map] at hf
    cases ha : u.funcs[n]? with
    | none => rw [ha] at hf; cases hf
    | some f =>
      rw [ha] at hf; cases hf
      obtain ⟨h1, h2⟩ := (dceU_of hm h).fn f (List.mem_of_getElem? ha)
      exact dce_snd (h.may.funcs n f ha) (h.fn n f ha) h1 h2
end Go.Proofs.Ytgoajlgkbcongaa.Vm
end
section
set_option linter.unusedVariables false
set_option linter.unusedSimpArgs false
set_option maxRecDepth 100000
set_option maxHeartbeats 4000000
namespace Go.Proofs.Ytgoajlgkbcongaa.Vm
open Go Go.RowKit Go.Proofs
/-- What the law DceTwice needs to know of a sound unit. -/
structure DceLaw2 (u : Unt) : Prop where
  ok : DceU u
  modest : Vm.Modest (dceUnit u)
  snd : SoundP (dceUnit u)
  ok2 : DceU (dceUnit u)
  again : dceUnit (dceUnit u) = dceUnit u
theorem dceLaw2_of {u : Unt} (h : SoundP u) (hm : Vm.Modest u) : DceLaw2 u :=
  ⟨dceU_of hm h, dce_modest hm, dce_sound hm h, dceU_of (dce_modest hm) (dce_sound hm h), dceUnit_again (dceU_of hm h)⟩
theorem fun7 (u : Unt) (hu : Vm.Modest u) (hc : cnt u ≤ 1099511627776) (hl : SoundP u → DceLaw2 u) : Fun Try.prog 7 [.agg (untRow u)] (fun r => r = .bool true) := by
  refine Fun.ok Try.func7 rfl (by rfl) 99 Try.ntmps7 (by rfl) fun hok K g0 => ?_
  simp -implicitDefEqProofs only [go_sem]
  refine AW.runs [] (by simp -implicitDefEqProofs only [go_sem]; rfl) (by trivial) ?_
  refine AW.seq ?_
  refine AW.join [(1, .box g0 (untRow u)), (16, .bool (!goB u))] 99 ?_ (fun g1 => ?_)
  · cases c1 : smallOf u
    · refine AW.run [.bool (smallOf u)] (by simp -implicitDefEqProofs only [go_sem, c1]; rfl) (ob1 (by have h := (fun15 u hc).obb; (try simp only [insRow, c1] at h); exact h)) ?_
      exact ⟨by simp -implicitDefEqProofs only [go_sem], by simp -implicitDefEqProofs only [go_sem, c1, goB]; try simp [c1, goB]⟩
    · refine AW.run [.bool (smallOf u), .bool (dec (SoundP u))] (by simp -implicitDefEqProofs only [go_sem, c1]; rfl) (ob2 (by have h := (fun15 u hc).obb; (try simp only [insRow, c1] at h); exact h) ((fun16 u hu).obb)) ?_
      exact ⟨by simp -implicitDefEqProofs only [go_sem], by simp -implicitDefEqProofs only [go_sem, c1, goB]; try simp [c1, goB]⟩
  · refine AW.if (by simp -implicitDefEqProofs only [go_sem]; rfl) (fun ht16 => ?_) (fun ht16 => ?_)
    · refine AW.runs [.bool true] (by simp -implicitDefEqProofs only [go_sem, ht16]; rfl) (ob1 (worksT.obb)) ?_
      exact AW.ret ⟨.inl rfl, _, rfl, by simp -implicitDefEqProofs only [go_sem]⟩
    · have hgo : goB u = true := by simpa using ht16
      have hso : dec (SoundP u) = true := by unfold goB at hgo; revert hgo; cases smallOf u <;> simp
      replace hl := hl (dec_true.1 hso)
      obtain ⟨v, hv⟩ : ∃ v, v = dceUnit u := ⟨_, rfl⟩
      have hmod := hl.modest
      have hsn := hl.snd
      have hok2 := hl.ok2
      have hag := hl.again
      rw [← hv] at hmod hsn hok2 hag
      refine AW.skip ?_
      show AW _ _ _ _ _
      refine AW.runs [.agg (untRow u), .agg (untRow v)] (by simp -implicitDefEqProofs only [go_sem, ht16]; rfl) (ob2 ((fun18 u hu).obf) (by rw [hv]; exact (fun19 u hu hl.ok).obf)) ?_
      refine AW.seq ?_
      refine AW.runs [.bool true] (by simp -implicitDefEqProofs only [go_sem, ht16]; rfl) (ob1 (by have h := (fun16 v hmod).obb; rw [dec_true.2 hsn] at h; exact h)) ?_
      refine AW.if (by simp -implicitDefEqProofs only [go_sem, ht16]; rfl) (fun h => absurd h (by simp)) (fun _ => ?_)
      refine AW.skip ?_
      show AW _ _ _ _ _
      refine AW.runs [.agg (untRow v), .agg (untRow v)] (by simp -implicitDefEqProofs only [go_sem, ht16]; rfl) (ob2 ((fun18 v hmod).obf) (by have h := (fun19 v hmod hok2).obf; rw [hag] at h; exact h)) ?_
      refine AW.seq ?_
      refine AW.runs [] (by simp -implicitDefEqProofs only [go_sem, ht16]; rfl) (by trivial) ?_
      refine AW.if (by simp -implicitDefEqProofs only [go_sem, ht16]; rfl) (fun h => absurd h (by simp)) (fun _ => ?_)
      refine AW.skip ?_
      show AW _ _ _ _ _
      refine AW.seq ?_
      refine AW.runs [] (by simp -implicitDefEqProofs only [go_sem, ht16]; rfl) (by trivial) ?_
      refine AW.block ?_
      refine AW.forH (X := Unit) (v.funcs.length) (fun i _ => [(3, .box g1 (untRow v)), (4, .box (g1 + 1) (untRow v)), (5, .int .i64 i)]) (fun i _ => True) 99 ⟨(), trivial, ⟨by simp -implicitDefEqProofs only [go_sem], by simp -implicitDefEqProofs only [go_sem, ht16]; try simp [ht16]⟩⟩ fun i _ g2 hii hinvi => ?_
      refine AW.seq ?_
      refine AW.runs [] (by simp -implicitDefEqProofs only [go_sem, ht16]; rfl) (by trivial) ?_
      refine AW.if (by simp -implicitDefEqProofs only [go_sem, ht16]; rfl) (fun ht38 => ?_) (fun ht38 => ?_)
      · have hlti : i < v.funcs.length := lt_dec ht38
        obtain ⟨f, hf⟩ := get_of_lt hlti
        have hfm := List.mem_of_getElem? hf
        have hbl := hmod.blocks f hfm
        refine AW.skip ?_
        show AW _ _ _ _ _
        refine AW.seq ?_
        refine AW.block ?_
        refine AW.seq ?_
        refine AW.has (n := 99) [(3, .box g1 (untRow v)), (4, .box (g1 + 1) (untRow v)), (5, .int .i64 i)] (⟨by simp -implicitDefEqProofs only [go_sem], by simp -implicitDefEqProofs only [go_sem, ht16, ht38, hf]; try simp [ht16, ht38, hf]⟩) (fun g3 => ?_)
        refine AW.seq ?_
        refine AW.drw 14 [[], [0], [], [0, 1, 2], [0, 1, 2, 3], [0, 1, 2, 3, 4], [0, 1, 2, 3, 4, 5], [], [7], [], [7, 8, 9], [7, 8, 9, 10], [7, 8, 9, 10, 11], [7, 8, 9, 10, 11, 12], [0, 1, 2, 3, 4, 5, 6, 7, 8, 9, 10, 11, 12, 13]] [41, 42, 43, 44, 45, 46, 47, 48, 49, 50, 51, 52, 53, 54] [] [] f_mix (by decide) (by rfl) (by rfl) rfl rfl (by simp -implicitDefEqProofs only [go_sem, ht16, ht38, hf]; rfl) (by trivial) (by simp -implicitDefEqProofs only [go_sem, ht16, ht38, hf]; rfl) (by trivial) ?_
        show AW _ _ _ _ _
        refine AW.if (by simp -implicitDefEqProofs only [go_sem, ht16, ht38, hf]; rfl) (fun h => absurd h (by simp)) (fun _ => ?_)
        refine AW.skip ?_
        show AW _ _ _ _ _
        refine AW.runs [] (by simp -implicitDefEqProofs only [go_sem, ht16, ht38, hf]; rfl) (by trivial) ?_
        refine AW.block ?_
        refine AW.forH (X := Unit) (f.blocks.length) (fun b _ => [(3, .box g1 (untRow v)), (4, .box (g1 + 1) (untRow v)), (5, .int .i64 i), (6, .int .i64 b)]) (fun b _ => True) 99 ⟨(), trivial, ⟨by simp -implicitDefEqProofs only [go_sem], by simp -implicitDefEqProofs only [go_sem, ht16, ht38, hf]; try simp [ht16, ht38, hf]⟩⟩ fun b _ g4 hib hinvb => ?_
        refine AW.seq ?_
        refine AW.runs [] (by simp -implicitDefEqProofs only [go_sem, ht16, ht38, hf]; rfl) (by trivial) ?_
        refine AW.if (by simp -implicitDefEqProofs only [go_sem, ht16, ht38, hf]; rfl) (fun ht64 => ?_) (fun ht64 => ?_)
        · have hltb : b < f.blocks.length := lt_dec ht64
          obtain ⟨blk, hb⟩ := get_of_lt hltb
          have hil : blk.ins.length ≤ 1048576 := Nat.le_trans (ins_le (List.mem_of_getElem? hb)) (hmod.ins f hfm)
          refine AW.skip ?_
          show AW _ _ _ _ _
          refine AW.seq ?_
          refine AW.block ?_
          refine AW.runs [] (by simp -implicitDefEqProofs only [go_sem, ht16, ht38, hf, ht64, hb]; rfl) (by trivial) ?_
          refine AW.runs [] (by simp -implicitDefEqProofs only [go_sem, ht16, ht38, hf, ht64, hb]; rfl) (by trivial) ?_
          refine AW.runs [.bool true] (by simp -implicitDefEqProofs only [go_sem, ht16, ht38, hf, ht64, hb]; rfl) (ob1 ((fun27 blk.ins hil).obb)) ?_
          refine AW.if (by simp -implicitDefEqProofs only [go_sem, ht16, ht38, hf, ht64, hb]; rfl) (fun h => absurd h (by simp)) (fun _ => ?_)
          refine AW.skip ?_
          show AW _ _ _ _ _
          refine AW.run [] (by simp -implicitDefEqProofs only [go_sem, ht16, ht38, hf, ht64, hb]; rfl) (by trivial) ?_
          exact ⟨hltb, (), trivial, ⟨by simp -implicitDefEqProofs only [go_sem], by simp -implicitDefEqProofs only [go_sem, ht16, ht38, hf, ht64, hb, step_int b (Nat.lt_of_lt_of_le hltb (by omega))]; try simp [ht16, ht38, hf, ht64, hb, step_int b (Nat.lt_of_lt_of_le hltb (by omega))]⟩⟩
        · refine AW.exit ?_
          show AW _ _ _ _ _
          refine AW.run [] (by simp -implicitDefEqProofs only [go_sem, ht16, ht38, hf, ht64]; rfl) (by trivial) ?_
          exact ⟨hlti, (), trivial, ⟨by simp -implicitDefEqProofs only [go_sem], by simp -implicitDefEqProofs only [go_sem, ht16, ht38, hf, ht64, step_int i (Nat.lt_of_lt_of_le hlti (by have := hmod.funcs; omega))]; try simp [ht16, ht38, hf, ht64, step_int i (Nat.lt_of_lt_of_le hlti (by have := hmod.funcs; omega))]⟩⟩
      · refine AW.exit ?_
        show AW _ _ _ _ _
        refine AW.runs [.bool true] (by simp -implicitDefEqProofs only [go_sem, ht16, ht38]; rfl) (ob1 (worksT.obb)) ?_
        exact AW.ret ⟨.inl rfl, _, rfl, by simp -implicitDefEqProofs only [go_sem, ht16, ht38]⟩
end Go.Proofs.Ytgoajlgkbcongaa.Vm
end
