/- The contracts of Needed and DceJust and the plain law that what dce needs is what the law itself finds needed, for every unit within the bound. -/
import Derived.Test.YtgoajlgkbcongaaMaH
section
set_option linter.unusedVariables false
set_option linter.unusedSimpArgs false
set_option maxRecDepth 100000
set_option maxHeartbeats 4000000
namespace Go.Proofs.Ytgoajlgkbcongaa.Vm
open Go Go.RowKit Go.Proofs
/-- Law 20's own words: what is needed by itself. -/
def rootB (x : Ins) : Bool := if stayOp x.op then true else (if x.op != 46 then decide (makesOf x < 0) else false)
def lroots (x : Ins) : List Int := if rootB x then usesOf x ++ (if decide (makesOf x ≥ 0) then [makesOf x] else []) else []
def ltB (t : Term) : Bool := if t.kind != 1 then decide (t.a ≥ 0) else false
def ltermR (t : Term) : List Int := if ltB t then [t.a] else []
def lblk (b : Block) : List Int := ltermR b.term ++ b.ins.flatMap lroots
def lrts (f : Fn) (b : Nat) : List Int := (f.blocks.take b).flatMap lblk
def rtsL (f : Fn) : List Int := f.blocks.flatMap lblk
def insBy (k : Nat) (x : Ins) : List Int := if makesOf x == (k : Int) then usesOf x else []
def blkBy (k : Nat) (b : Block) : List Int := b.ins.flatMap (insBy k)
def byLN (f : Fn) (k : Nat) : List Int := f.blocks.flatMap (blkBy k)
/-- What Needed asks of a function. -/
structure LawOk (f : Fn) (N : Nat) : Prop where
  size : f.size = (N : Int)
  small : N ≤ 524288
  blocks : f.blocks.length ≤ 2000
  ins : ∀ b ∈ f.blocks, b.ins.length ≤ 1048576
  args : ∀ b ∈ f.blocks, ∀ x ∈ b.ins, x.args.length ≤ 1048576
  rts : (rtsL f).length ≤ 4194304
  by_ : ∀ k, (byLN f k).length ≤ 4194304
  rin : ∀ v ∈ rtsL f, ∃ k : Nat, v = (k : Int) ∧ k < N
  bin : ∀ k, ∀ v ∈ byLN f k, ∃ j : Nat, v = (j : Int) ∧ j < N
noncomputable def needJ (f : Fn) (N : Nat) : List Bool := (List.range N).map fun k => dec (ReachB (byLN f) (rtsL f) k)
structure LI (f : Fn) (N : Nat) (w : List Int) (out : List Bool) (i : Nat) : Prop where
  hi : i ≤ w.length
  ho : out.length = N
  hl : ∀ v ∈ w, ∃ k : Nat, v = (k : Int) ∧ k < N
  hr : ∀ v ∈ w, ∀ k : Nat, v = (k : Int) → ReachB (byLN f) (rtsL f) k
  hd : ∀ k : Nat, out[k]? = some true → (k : Int) ∈ w.take i
  hp : ∀ v ∈ w.take i, ∀ k : Nat, v = (k : Int) → out[k]? = some true
  hs : ∀ k : Nat, out[k]? = some true → ∀ v ∈ byLN f k, v ∈ w
  h0 : ∀ v ∈ rtsL f, v ∈ w
  hb : w.length + out.count false * 4194304 ≤ 4194304 + N * 4194304
theorem LI.start {f : Fn} {N : Nat} (h : LawOk f N) : LI f N (rtsL f) (List.replicate N false) 0 where
  hi := Nat.zero_le _
  ho := by simp
  hl := h.rin
  hr := fun v hv k e => .root (by rw [← e]; exact hv)
  hd := fun k hk => by rw [List.getElem?_replicate] at hk; split at hk <;> simp at hk
  hp := fun v hv => by simp at hv
  hs := fun k hk => by rw [List.getElem?_replicate] at hk; split at hk <;> simp at hk
  h0 := fun v hv => hv
  hb := by have := h.rts; simp [List.count_replicate]; omega
theorem LI.at {f : Fn} {N : Nat} {w : List Int} {out : List Bool} {i : Nat} (h : LI f N w out i) (hlt : i < w.length) : ∃ k : Nat, w[i]? = some (k : Int) ∧ k < N ∧ ∃ b, out[k]? = some b := by
  have hx := List.getElem?_eq_getElem hlt
  obtain ⟨k, hk, hkN⟩ := h.hl _ (List.getElem_mem hlt)
  exact ⟨k, by rw [hx, hk], hkN, get_of_lt (by rw [h.ho]; exact hkN)⟩
theorem LI.seen {f : Fn} {N : Nat} {w : List Int} {out : List Bool} {i k : Nat} (h : LI f N w out i) (hlt : i < w.length) (hx : w[i]? = some (k : Int)) (ho : out[k]? = some true) : LI f N w out (i + 1) where
  hi := hlt
  ho := h.ho
  hl := h.hl
  hr := h.hr
  hd := fun j hj => by rw [take_snoc hx]; exact List.mem_append_left _ (h.hd j hj)
  hp := fun v hv j e => by
    rw [take_snoc hx, List.mem_append, List.mem_singleton] at hv
    rcases hv with hv | hv
    · exact h.hp v hv j e
    · rw [hv] at e
      have : k = j := by omega
      subst this; exact ho
  hs := h.hs
  h0 := h.h0
  hb := h.hb
theorem LI.new {f : Fn} {N : Nat} {w : List Int} {out : List Bool} {i k : Nat} (h : LI f N w out i) (hok : LawOk f N) (hlt : i < w.length) (hx : w[i]? = some (k : Int)) (ho : out[k]? = some false) : LI f N (w ++ byLN f k) (out.set k true) (i + 1) where
  hi := by rw [List.length_append]; omega
  ho := by simp [h.ho]
  hl := fun v hv => by
    rcases List.mem_append.1 hv with hv | hv
    · exact h.hl v hv
    · exact hok.bin k v hv
  hr := fun v hv j e => by
    rcases List.mem_append.1 hv with hv | hv
    · exact h.hr v hv j e
    · exact .step (h.hr _ (List.mem_of_getElem? hx) k rfl) (by rw [← e]; exact hv)
  hd := fun j hj => by
    rw [List.take_append_of_le_length (by omega), take_snoc hx, List.mem_append, List.mem_singleton]
    rw [List.getElem?_set] at hj
    by_cases e : k = j
    · exact .inr (by omega)
    · rw [if_neg e] at hj; exact .inl (h.hd j hj)
  hp := fun v hv j e => by
    rw [List.take_append_of_le_length (by omega), take_snoc hx, List.mem_append, List.mem_singleton] at hv
    rw [List.getElem?_set]
    by_cases e2 : k = j
    · subst e2
      have := (List.getElem?_eq_some_iff.1 ho).1
      simp [this]
    · rw [if_neg e2]
      rcases hv with hv | hv
      · exact h.hp v hv j e
      · rw [hv] at e; omega
  hs := fun j hj v hv => by
    rw [List.getElem?_set] at hj
    by_cases e : k = j
    · subst e; exact List.mem_append_right _ hv
    · rw [if_neg e] at hj; exact List.mem_append_left _ (h.hs j hj v hv)
  h0 := fun v hv => List.mem_append_left _ (h.h0 v hv)
  hb := by
    have h1 := count_set ho
    have h2 := h.hb
    have h3 := hok.by_ k
    rw [List.length_append]
    rw [← h1, Nat.add_mul] at h2
    omega
theorem LI.len {f : Fn} {N : Nat} {w : List Int} {out : List Bool} {i : Nat} (h : LI f N w out i) (hN : N ≤ 524288) : w.length ≤ 2199027449856 := by
  have h1 := h.hb
  have h2 : ∀ K : Nat, w.length + out.count false * K ≤ K + N * K → w.length ≤ K + 524288 * K := by
    intro K hk
    have := Nat.mul_le_mul_right K hN
    omega
  exact Nat.le_trans (h2 _ h1) (by decide)
theorem LI.done {f : Fn} {N : Nat} {w : List Int} {out : List Bool} {i : Nat} (h : LI f N w out i) (hi : w.length ≤ i) : out = needJ f N := by
  have hall : w.take i = w := List.take_of_length_le hi
  refine bools_ext h.ho fun k => ⟨fun hk => ?_, fun hk => ?_⟩
  · have := h.hd k hk
    rw [hall] at this
    exact h.hr _ this k rfl
  · induction hk with
    | @root v hv => exact h.hp _ (by rw [hall]; exact h.h0 _ hv) v rfl
    | @step u v hu hv ih => exact h.hp _ (by rw [hall]; exact h.hs u ih _ hv) v rfl
theorem fm_len {α β : Type} (g : α → List β) (l : List α) (i : Nat) : ((l.take i).flatMap g).length ≤ (l.flatMap g).length := by
  conv => rhs; rw [← List.take_append_drop i l]
  rw [List.flatMap_append, List.length_append]; omega
theorem fm_len2 {α β : Type} (g : α → List β) {l : List α} {i : Nat} {x : α} (h : l[i]? = some x) : ((l.take i).flatMap g).length + (g x).length ≤ (l.flatMap g).length := by
  have := fm_len g l (i + 1)
  rw [fm_take _ h, List.length_append] at this
  exact this
theorem fun26 (x : Ins) : Fun Try.prog 26 [.agg (insRow x)] (fun r => r = .bool (rootB x)) := by
  refine Fun.ok Try.func26 rfl (by rfl) 19 Try.ntmps26 (by rfl) fun hok K g0 => ?_
  simp -implicitDefEqProofs only [go_sem]
  refine AW.runs [] (by simp -implicitDefEqProofs only [go_sem]; rfl) (by trivial) ?_
  refine AW.seq ?_
  refine AW.runs [] (by simp -implicitDefEqProofs only [go_sem]; rfl) (by trivial) ?_
  refine AW.block ?_
  refine AW.join [(1, .box g0 (insRow x)), (5, .bool (stayOp x.op))] 19 ?_ (fun g1 => ?_)
  · refine AW.runs [] (by simp -implicitDefEqProofs only [go_sem]; rfl) (by trivial) ?_
    refine AW.if (by simp -implicitDefEqProofs only [go_sem]; rfl) (fun ht5 => ?_) (fun ht5 => ?_)
    · refine AW.skip ?_
      exact ⟨by simp -implicitDefEqProofs only [go_sem], by simp -implicitDefEqProofs only [go_sem, ht5, stayOp]; try simp [ht5, stayOp]⟩
    · refine AW.runs [] (by simp -implicitDefEqProofs only [go_sem, ht5]; rfl) (by trivial) ?_
      refine AW.if (by simp -implicitDefEqProofs only [go_sem, ht5]; rfl) (fun ht5_2 => ?_) (fun ht5_2 => ?_)
      · refine AW.skip ?_
        exact ⟨by simp -implicitDefEqProofs only [go_sem], by simp -implicitDefEqProofs only [go_sem, ht5, ht5_2, stayOp]; try simp [ht5, ht5_2, stayOp]⟩
      · refine AW.runs [] (by simp -implicitDefEqProofs only [go_sem, ht5, ht5_2]; rfl) (by trivial) ?_
        refine AW.if (by simp -implicitDefEqProofs only [go_sem, ht5, ht5_2]; rfl) (fun ht5_3 => ?_) (fun ht5_3 => ?_)
        · refine AW.skip ?_
          exact ⟨by simp -implicitDefEqProofs only [go_sem], by simp -implicitDefEqProofs only [go_sem, ht5, ht5_2, ht5_3, stayOp]; try simp [ht5, ht5_2, ht5_3, stayOp]⟩
        · refine AW.runs [] (by simp -implicitDefEqProofs only [go_sem, ht5, ht5_2, ht5_3]; rfl) (by trivial) ?_
          refine AW.if (by simp -implicitDefEqProofs only [go_sem, ht5, ht5_2, ht5_3]; rfl) (fun ht5_4 => ?_) (fun ht5_4 => ?_)
          · refine AW.skip ?_
            exact ⟨by simp -implicitDefEqProofs only [go_sem], by simp -implicitDefEqProofs only [go_sem, ht5, ht5_2, ht5_3, ht5_4, stayOp]; try simp [ht5, ht5_2, ht5_3, ht5_4, stayOp]⟩
          · refine AW.run [] (by simp -implicitDefEqProofs only [go_sem, ht5, ht5_2, ht5_3, ht5_4]; rfl) (by trivial) ?_
            exact ⟨by simp -implicitDefEqProofs only [go_sem], by simp -implicitDefEqProofs only [go_sem, ht5, ht5_2, ht5_3, ht5_4, stayOp]; try simp [ht5, ht5_2, ht5_3, ht5_4, stayOp]⟩
  · refine AW.if (by simp -implicitDefEqProofs only [go_sem]; rfl) (fun ht5_5 => ?_) (fun ht5_5 => ?_)
    · refine AW.runs [] (by simp -implicitDefEqProofs only [go_sem, ht5_5]; rfl) (by trivial) ?_
      exact AW.ret ⟨.inl rfl, _, rfl, by simp -implicitDefEqProofs only [go_sem, ht5_5, rootB]⟩
    · refine AW.skip ?_
      show AW _ _ _ _ _
      cases c1 : (x.op != 46)
      · refine AW.runs [] (by simp -implicitDefEqProofs only [go_sem, ht5_5, c1]; rfl) (by trivial) ?_
        exact AW.ret ⟨.inl rfl, _, rfl, by simp -implicitDefEqProofs only [go_sem, ht5_5, c1, rootB]⟩
      · refine AW.runs [.int .i64 (makesOf x)] (by simp -implicitDefEqProofs only [go_sem, ht5_5, c1]; rfl) (ob1 ((fun25 x).obi)) ?_
        exact AW.ret ⟨.inl rfl, _, rfl, by simp -implicitDefEqProofs only [go_sem, ht5_5, c1, rootB]⟩
theorem fun24 (f : Fn) (N : Nat) (hf : LawOk f N) : Fun Try.prog 24 [.agg (fnRow f)] (fun r => r.frz = .fz ((needJ f N).map boolRow)) := by
  refine Fun.ok Try.func24 rfl (by rfl) 155 Try.ntmps24 (by rfl) fun hok K g0 => ?_
  simp -implicitDefEqProofs only [go_sem]
  have hsz := hf.size
  have hN := hf.small
  have hN1 : N ≤ 281474976710656 := by omega
  have hN2 : N ≤ 9223372036854775807 := by omega
  have hbl := hf.blocks
  refine AW.runs [] (by simp -implicitDefEqProofs only [go_sem, hsz, hN1, hN2]; rfl) (by trivial) ?_
  refine AW.runs [] (by simp -implicitDefEqProofs only [go_sem, hsz, hN1, hN2]; rfl) (by trivial) ?_
  refine AW.runs [] (by simp -implicitDefEqProofs only [go_sem, hsz, hN1, hN2]; rfl) (by trivial) ?_
  refine AW.nilOwn (4, []) 1 (by simp -implicitDefEqProofs only [go_sem]) ?_
  refine AW.seq ?_
  refine AW.runs [] (by simp -implicitDefEqProofs only [go_sem, hsz, hN1, hN2]; rfl) (by trivial) ?_
  refine AW.block ?_
  refine AW.forH (X := Nat × List Int) (f.blocks.length) (fun b x => [(1, .box g0 (fnRow f)), (3, .own (g0 + 1) 1 ((List.replicate N false).map boolRow)), (4, .own x.1 1 (x.2.map intRow)), (5, .int .i64 b)]) (fun b x => x.2 = lrts f b) 155 ⟨((g0 + 2), []), by simp [lrts], ⟨by simp -implicitDefEqProofs only [go_sem], by simp -implicitDefEqProofs only [go_sem, hsz, hN1, hN2, List.map_nil]; try simp [hsz, hN1, hN2, List.map_nil]⟩⟩ fun b x g1 hib hinvb => ?_
  obtain ⟨idw, w⟩ := x
  simp only at hinvb ⊢
  refine AW.seq ?_
  refine AW.runs [] (by simp -implicitDefEqProofs only [go_sem, hsz, hN1, hN2]; rfl) (by trivial) ?_
  refine AW.if (by simp -implicitDefEqProofs only [go_sem, hsz, hN1, hN2]; rfl) (fun ht19 => ?_) (fun ht19 => ?_)
  · have hltb : b < f.blocks.length := lt_dec ht19
    obtain ⟨blk, hb⟩ := get_of_lt hltb
    have hbm := List.mem_of_getElem? hb
    have hil := hf.ins blk hbm
    refine AW.skip ?_
    show AW _ _ _ _ _
    refine AW.seq ?_
    refine AW.block ?_
    refine AW.runs [] (by simp -implicitDefEqProofs only [go_sem, hsz, hN1, hN2, ht19, hb]; rfl) (by trivial) ?_
    refine AW.seq ?_
    refine AW.join [(1, .box g0 (fnRow f)), (3, .own (g0 + 1) 1 ((List.replicate N false).map boolRow)), (4, .own idw 1 (w.map intRow)), (5, .int .i64 b), (6, .box g1 (termRow blk.term)), (35, .bool (ltB blk.term))] 155 ?_ (fun g2 => ?_)
    · cases c1 : (blk.term.kind != 1)
      · refine AW.run [] (by simp -implicitDefEqProofs only [go_sem, hsz, hN1, hN2, ht19, hb, c1]; rfl) (by trivial) ?_
        exact ⟨by simp -implicitDefEqProofs only [go_sem], by simp -implicitDefEqProofs only [go_sem, hsz, hN1, hN2, ht19, hb, c1, ltB]; try simp [hsz, hN1, hN2, ht19, hb, c1, ltB]⟩
      · refine AW.run [] (by simp -implicitDefEqProofs only [go_sem, hsz, hN1, hN2, ht19, hb, c1]; rfl) (by trivial) ?_
        exact ⟨by simp -implicitDefEqProofs only [go_sem], by simp -implicitDefEqProofs only [go_sem, hsz, hN1, hN2, ht19, hb, c1, ltB]; try simp [hsz, hN1, hN2, ht19, hb, c1, ltB]⟩
    · refine AW.if (by simp -implicitDefEqProofs only [go_sem, hsz, hN1, hN2, ht19, hb]; rfl) (fun ht35 => ?_) (fun ht35 => ?_)
      · have htr : ltermR blk.term = [blk.term.a] := by unfold ltermR; rw [ht35]; rfl
        have hwb : (w.length + 1) * 8 ≤ 140737488355328 := by have h1 := fm_len lblk f.blocks b; have h2 := hf.rts; rw [hinvb]; unfold rtsL at h2; unfold lrts; omega
        refine AW.run [] (by simp -implicitDefEqProofs only [go_sem, hsz, hN1, hN2, ht19, hb, ht35, hwb]; rfl) (by trivial) ?_
        show AW _ _ _ _ _
        refine AW.runs [] (by simp -implicitDefEqProofs only [go_sem, hsz, hN1, hN2, ht19, hb, ht35, hwb]; rfl) (by trivial) ?_
        refine AW.block ?_
        refine AW.forH (X := Nat × List Int) (blk.ins.length) (fun i y => [(1, .box g0 (fnRow f)), (3, .own (g0 + 1) 1 ((List.replicate N false).map boolRow)), (4, .own y.1 1 (y.2.map intRow)), (5, .int .i64 b), (7, .int .i64 i)]) (fun i y => y.2 = lrts f b ++ (ltermR blk.term ++ (blk.ins.take i).flatMap lroots)) 155 ⟨((g2 + 1), w ++ [blk.term.a]), by rw [hinvb, htr]; simp, ⟨by simp -implicitDefEqProofs only [go_sem], by simp -implicitDefEqProofs only [go_sem, hsz, hN1, hN2, ht19, hb, ht35, hwb]; try simp [hsz, hN1, hN2, ht19, hb, ht35, hwb]⟩⟩ fun i y g3 hii hinvi => ?_
        obtain ⟨idv, v⟩ := y
        simp only at hinvi ⊢
        refine AW.seq ?_
        refine AW.runs [] (by simp -implicitDefEqProofs only [go_sem, hsz, hN1, hN2, ht19, hb, ht35, hwb]; rfl) (by trivial) ?_
        refine AW.if (by simp -implicitDefEqProofs only [go_sem, hsz, hN1, hN2, ht19, hb, ht35, hwb]; rfl) (fun ht49 => ?_) (fun ht49 => ?_)
        · have hlti : i < blk.ins.length := lt_dec ht49
          obtain ⟨x, hx⟩ := get_of_lt hlti
          have hxa := hf.args blk hbm x (List.mem_of_getElem? hx)
          refine AW.skip ?_
          show AW _ _ _ _ _
          refine AW.seq ?_
          refine AW.block ?_
          refine AW.runs [.bool (rootB x)] (by simp -implicitDefEqProofs only [go_sem, hsz, hN1, hN2, ht19, hb, ht35, hwb, ht49, hx]; rfl) (ob1 ((fun26 x).obb)) ?_
          refine AW.if (by simp -implicitDefEqProofs only [go_sem, hsz, hN1, hN2, ht19, hb, ht35, hwb, ht49, hx]; rfl) (fun ht61 => ?_) (fun ht61 => ?_)
          · have hv1 : v.length + (usesOf x).length + 1 ≤ 4194305 := by have h1 := fm_len2 lroots hx; have h2 : (lrts f b).length + (lblk blk).length ≤ (rtsL f).length := fm_len2 lblk hb; have h3 := hf.rts; have e1 : (usesOf x).length ≤ (lroots x).length := (by unfold lroots; rw [ht61]; simp); have e2 : (lblk blk).length = (ltermR blk.term).length + (blk.ins.flatMap lroots).length := (by unfold lblk; simp); have e3 : v.length = (lrts f b).length + ((ltermR blk.term).length + ((blk.ins.take i).flatMap lroots).length) := (by rw [hinvi]; simp only [List.length_append]); omega
            have hvb : (v.length + (usesOf x).length) * 8 ≤ 140737488355328 := by omega
            have hvb1 : (v.length + (usesOf x).length + 1) * 8 ≤ 140737488355328 := by omega
            refine AW.runs [.fz ((usesOf x).map intRow)] (by simp -implicitDefEqProofs only [go_sem, hsz, hN1, hN2, ht19, hb, ht35, hwb, ht49, hx, ht61, hvb, hvb1]; rfl) (ob1 ((fun62 x hxa).obf)) ?_
            refine AW.runs [.int .i64 (makesOf x)] (by simp -implicitDefEqProofs only [go_sem, hsz, hN1, hN2, ht19, hb, ht35, hwb, ht49, hx, ht61, hvb, hvb1]; rfl) (ob1 ((fun25 x).obi)) ?_
            refine AW.runs [] (by simp -implicitDefEqProofs only [go_sem, hsz, hN1, hN2, ht19, hb, ht35, hwb, ht49, hx, ht61, hvb, hvb1]; rfl) (by trivial) ?_
            refine AW.if (by simp -implicitDefEqProofs only [go_sem, hsz, hN1, hN2, ht19, hb, ht35, hwb, ht49, hx, ht61, hvb, hvb1]; rfl) (fun ht85 => ?_) (fun ht85 => ?_)
            · have hlr : lroots x = usesOf x ++ [makesOf x] := by unfold lroots; rw [ht61, ht85]; rfl
              refine AW.run [] (by simp -implicitDefEqProofs only [go_sem, hsz, hN1, hN2, ht19, hb, ht35, hwb, ht49, hx, ht61, hvb, hvb1, ht85]; rfl) (by trivial) ?_
              show AW _ _ _ _ _
              refine AW.run [] (by simp -implicitDefEqProofs only [go_sem, hsz, hN1, hN2, ht19, hb, ht35, hwb, ht49, hx, ht61, hvb, hvb1, ht85]; rfl) (by trivial) ?_
              exact ⟨hlti, ((g3 + 2), v ++ usesOf x ++ [makesOf x]), by rw [hinvi, fm_take _ hx, hlr]; simp, ⟨by simp -implicitDefEqProofs only [go_sem], by simp -implicitDefEqProofs only [go_sem, hsz, hN1, hN2, ht19, hb, ht35, hwb, ht49, hx, ht61, hvb, hvb1, ht85, step_int i (Nat.lt_of_lt_of_le hlti (by omega))]; try simp [hsz, hN1, hN2, ht19, hb, ht35, hwb, ht49, hx, ht61, hvb, hvb1, ht85, step_int i (Nat.lt_of_lt_of_le hlti (by omega))]⟩⟩
            · have hlr : lroots x = usesOf x := by unfold lroots; rw [ht61, ht85]; simp
              refine AW.skip ?_
              show AW _ _ _ _ _
              refine AW.run [] (by simp -implicitDefEqProofs only [go_sem, hsz, hN1, hN2, ht19, hb, ht35, hwb, ht49, hx, ht61, hvb, hvb1, ht85]; rfl) (by trivial) ?_
              exact ⟨hlti, (g3, v ++ usesOf x), by rw [hinvi, fm_take _ hx, hlr]; simp, ⟨by simp -implicitDefEqProofs only [go_sem], by simp -implicitDefEqProofs only [go_sem, hsz, hN1, hN2, ht19, hb, ht35, hwb, ht49, hx, ht61, hvb, hvb1, ht85, step_int i (Nat.lt_of_lt_of_le hlti (by omega))]; try simp [hsz, hN1, hN2, ht19, hb, ht35, hwb, ht49, hx, ht61, hvb, hvb1, ht85, step_int i (Nat.lt_of_lt_of_le hlti (by omega))]⟩⟩
          · have hlr : lroots x = [] := by unfold lroots; rw [ht61]; rfl
            refine AW.skip ?_
            show AW _ _ _ _ _
            refine AW.run [] (by simp -implicitDefEqProofs only [go_sem, hsz, hN1, hN2, ht19, hb, ht35, hwb, ht49, hx, ht61]; rfl) (by trivial) ?_
            exact ⟨hlti, (idv, v), by rw [hinvi, fm_take _ hx, hlr]; simp, ⟨by simp -implicitDefEqProofs only [go_sem], by simp -implicitDefEqProofs only [go_sem, hsz, hN1, hN2, ht19, hb, ht35, hwb, ht49, hx, ht61, step_int i (Nat.lt_of_lt_of_le hlti (by omega))]; try simp [hsz, hN1, hN2, ht19, hb, ht35, hwb, ht49, hx, ht61, step_int i (Nat.lt_of_lt_of_le hlti (by omega))]⟩⟩
        · have hie := ge_dec ht49
          refine AW.exit ?_
          show AW _ _ _ _ _
          refine AW.run [] (by simp -implicitDefEqProofs only [go_sem, hsz, hN1, hN2, ht19, hb, ht35, hwb, ht49]; rfl) (by trivial) ?_
          exact ⟨hltb, (idv, v), by rw [hinvi, List.take_of_length_le hie]; unfold lrts; rw [fm_take _ hb]; rfl, ⟨by simp -implicitDefEqProofs only [go_sem], by simp -implicitDefEqProofs only [go_sem, hsz, hN1, hN2, ht19, hb, ht35, hwb, ht49, step_int b (Nat.lt_of_lt_of_le hltb (by omega))]; try simp [hsz, hN1, hN2, ht19, hb, ht35, hwb, ht49, step_int b (Nat.lt_of_lt_of_le hltb (by omega))]⟩⟩
      · have htr : ltermR blk.term = [] := by unfold ltermR; rw [ht35]; rfl
        refine AW.skip ?_
        show AW _ _ _ _ _
        refine AW.runs [] (by simp -implicitDefEqProofs only [go_sem, hsz, hN1, hN2, ht19, hb, ht35]; rfl) (by trivial) ?_
        refine AW.block ?_
        refine AW.forH (X := Nat × List Int) (blk.ins.length) (fun i y => [(1, .box g0 (fnRow f)), (3, .own (g0 + 1) 1 ((List.replicate N false).map boolRow)), (4, .own y.1 1 (y.2.map intRow)), (5, .int .i64 b), (7, .int .i64 i)]) (fun i y => y.2 = lrts f b ++ (ltermR blk.term ++ (blk.ins.take i).flatMap lroots)) 155 ⟨(idw, w), by rw [hinvb, htr]; simp, ⟨by simp -implicitDefEqProofs only [go_sem], by simp -implicitDefEqProofs only [go_sem, hsz, hN1, hN2, ht19, hb, ht35]; try simp [hsz, hN1, hN2, ht19, hb, ht35]⟩⟩ fun i y g4 hii hinvi => ?_
        obtain ⟨idv, v⟩ := y
        simp only at hinvi ⊢
        refine AW.seq ?_
        refine AW.runs [] (by simp -implicitDefEqProofs only [go_sem, hsz, hN1, hN2, ht19, hb, ht35]; rfl) (by trivial) ?_
        refine AW.if (by simp -implicitDefEqProofs only [go_sem, hsz, hN1, hN2, ht19, hb, ht35]; rfl) (fun ht49 => ?_) (fun ht49 => ?_)
        · have hlti : i < blk.ins.length := lt_dec ht49
          obtain ⟨x, hx⟩ := get_of_lt hlti
          have hxa := hf.args blk hbm x (List.mem_of_getElem? hx)
          refine AW.skip ?_
          show AW _ _ _ _ _
          refine AW.seq ?_
          refine AW.block ?_
          refine AW.runs [.bool (rootB x)] (by simp -implicitDefEqProofs only [go_sem, hsz, hN1, hN2, ht19, hb, ht35, ht49, hx]; rfl) (ob1 ((fun26 x).obb)) ?_
          refine AW.if (by simp -implicitDefEqProofs only [go_sem, hsz, hN1, hN2, ht19, hb, ht35, ht49, hx]; rfl) (fun ht61 => ?_) (fun ht61 => ?_)
          · have hv1 : v.length + (usesOf x).length + 1 ≤ 4194305 := by have h1 := fm_len2 lroots hx; have h2 : (lrts f b).length + (lblk blk).length ≤ (rtsL f).length := fm_len2 lblk hb; have h3 := hf.rts; have e1 : (usesOf x).length ≤ (lroots x).length := (by unfold lroots; rw [ht61]; simp); have e2 : (lblk blk).length = (ltermR blk.term).length + (blk.ins.flatMap lroots).length := (by unfold lblk; simp); have e3 : v.length = (lrts f b).length + ((ltermR blk.term).length + ((blk.ins.take i).flatMap lroots).length) := (by rw [hinvi]; simp only [List.length_append]); omega
            have hvb : (v.length + (usesOf x).length) * 8 ≤ 140737488355328 := by omega
            have hvb1 : (v.length + (usesOf x).length + 1) * 8 ≤ 140737488355328 := by omega
            refine AW.runs [.fz ((usesOf x).map intRow)] (by simp -implicitDefEqProofs only [go_sem, hsz, hN1, hN2, ht19, hb, ht35, ht49, hx, ht61, hvb, hvb1]; rfl) (ob1 ((fun62 x hxa).obf)) ?_
            refine AW.runs [.int .i64 (makesOf x)] (by simp -implicitDefEqProofs only [go_sem, hsz, hN1, hN2, ht19, hb, ht35, ht49, hx, ht61, hvb, hvb1]; rfl) (ob1 ((fun25 x).obi)) ?_
            refine AW.runs [] (by simp -implicitDefEqProofs only [go_sem, hsz, hN1, hN2, ht19, hb, ht35, ht49, hx, ht61, hvb, hvb1]; rfl) (by trivial) ?_
            refine AW.if (by simp -implicitDefEqProofs only [go_sem, hsz, hN1, hN2, ht19, hb, ht35, ht49, hx, ht61, hvb, hvb1]; rfl) (fun ht85 => ?_) (fun ht85 => ?_)
            · have hlr : lroots x = usesOf x ++ [makesOf x] := by unfold lroots; rw [ht61, ht85]; rfl
              refine AW.run [] (by simp -implicitDefEqProofs only [go_sem, hsz, hN1, hN2, ht19, hb, ht35, ht49, hx, ht61, hvb, hvb1, ht85]; rfl) (by trivial) ?_
              show AW _ _ _ _ _
              refine AW.run [] (by simp -implicitDefEqProofs only [go_sem, hsz, hN1, hN2, ht19, hb, ht35, ht49, hx, ht61, hvb, hvb1, ht85]; rfl) (by trivial) ?_
              exact ⟨hlti, ((g4 + 2), v ++ usesOf x ++ [makesOf x]), by rw [hinvi, fm_take _ hx, hlr]; simp, ⟨by simp -implicitDefEqProofs only [go_sem], by simp -implicitDefEqProofs only [go_sem, hsz, hN1, hN2, ht19, hb, ht35, ht49, hx, ht61, hvb, hvb1, ht85, step_int i (Nat.lt_of_lt_of_le hlti (by omega))]; try simp [hsz, hN1, hN2, ht19, hb, ht35, ht49, hx, ht61, hvb, hvb1, ht85, step_int i (Nat.lt_of_lt_of_le hlti (by omega))]⟩⟩
            · have hlr : lroots x = usesOf x := by unfold lroots; rw [ht61, ht85]; simp
              refine AW.skip ?_
              show AW _ _ _ _ _
              refine AW.run [] (by simp -implicitDefEqProofs only [go_sem, hsz, hN1, hN2, ht19, hb, ht35, ht49, hx, ht61, hvb, hvb1, ht85]; rfl) (by trivial) ?_
              exact ⟨hlti, (g4, v ++ usesOf x), by rw [hinvi, fm_take _ hx, hlr]; simp, ⟨by simp -implicitDefEqProofs only [go_sem], by simp -implicitDefEqProofs only [go_sem, hsz, hN1, hN2, ht19, hb, ht35, ht49, hx, ht61, hvb, hvb1, ht85, step_int i (Nat.lt_of_lt_of_le hlti (by omega))]; try simp [hsz, hN1, hN2, ht19, hb, ht35, ht49, hx, ht61, hvb, hvb1, ht85, step_int i (Nat.lt_of_lt_of_le hlti (by omega))]⟩⟩
          · have hlr : lroots x = [] := by unfold lroots; rw [ht61]; rfl
            refine AW.skip ?_
            show AW _ _ _ _ _
            refine AW.run [] (by simp -implicitDefEqProofs only [go_sem, hsz, hN1, hN2, ht19, hb, ht35, ht49, hx, ht61]; rfl) (by trivial) ?_
            exact ⟨hlti, (idv, v), by rw [hinvi, fm_take _ hx, hlr]; simp, ⟨by simp -implicitDefEqProofs only [go_sem], by simp -implicitDefEqProofs only [go_sem, hsz, hN1, hN2, ht19, hb, ht35, ht49, hx, ht61, step_int i (Nat.lt_of_lt_of_le hlti (by omega))]; try simp [hsz, hN1, hN2, ht19, hb, ht35, ht49, hx, ht61, step_int i (Nat.lt_of_lt_of_le hlti (by omega))]⟩⟩
        · have hie := ge_dec ht49
          refine AW.exit ?_
          show AW _ _ _ _ _
          refine AW.run [] (by simp -implicitDefEqProofs only [go_sem, hsz, hN1, hN2, ht19, hb, ht35, ht49]; rfl) (by trivial) ?_
          exact ⟨hltb, (idv, v), by rw [hinvi, List.take_of_length_le hie]; unfold lrts; rw [fm_take _ hb]; rfl, ⟨by simp -implicitDefEqProofs only [go_sem], by simp -implicitDefEqProofs only [go_sem, hsz, hN1, hN2, ht19, hb, ht35, ht49, step_int b (Nat.lt_of_lt_of_le hltb (by omega))]; try simp [hsz, hN1, hN2, ht19, hb, ht35, ht49, step_int b (Nat.lt_of_lt_of_le hltb (by omega))]⟩⟩
  · have hbe := ge_dec ht19
    have hwr : w = rtsL f := by rw [hinvb]; unfold lrts rtsL; rw [List.take_of_length_le hbe]
    subst hwr
    refine AW.exit ?_
    show AW _ _ _ _ _
    refine AW.seq ?_
    refine AW.runs [] (by simp -implicitDefEqProofs only [go_sem, hsz, hN1, hN2, ht19]; rfl) (by trivial) ?_
    refine AW.block ?_
    refine AW.loopH (X := Nat × List Int × List Bool × Nat) (fun q => q.2.2.1.count false * 4194305 + (q.2.1.length - q.2.2.2)) (fun q => [(1, .box g0 (fnRow f)), (3, .own (g0 + 1) 1 (q.2.2.1.map boolRow)), (4, .own q.1 1 (q.2.1.map intRow)), (9, .int .i64 q.2.2.2)]) (fun q => LI f N q.2.1 q.2.2.1 q.2.2.2) 155 ⟨(idw, rtsL f, List.replicate N false, 0), LI.start hf, ⟨by simp -implicitDefEqProofs only [go_sem], by simp -implicitDefEqProofs only [go_sem, hsz, hN1, hN2, ht19]; try simp [hsz, hN1, hN2, ht19]⟩⟩ fun q g5 hinv => ?_
    obtain ⟨idw, w, out, i⟩ := q
    simp only at hinv ⊢
    refine AW.seq ?_
    refine AW.runs [] (by simp -implicitDefEqProofs only [go_sem, hsz, hN1, hN2, ht19]; rfl) (by trivial) ?_
    refine AW.if (by simp -implicitDefEqProofs only [go_sem, hsz, hN1, hN2, ht19]; rfl) (fun ht93 => ?_) (fun ht93 => ?_)
    · have hlt : i < w.length := lt_dec ht93
      obtain ⟨k, hwi, hkN, bo, hko⟩ := hinv.at hlt
      have hkl : k < out.length := by rw [hinv.ho]; exact hkN
      have hi9 : i < 9223372036854775807 := by have h4 := hinv.len hN; omega
      have hstep := step_int i hi9
      refine AW.skip ?_
      show AW _ _ _ _ _
      refine AW.seq ?_
      refine AW.block ?_
      refine AW.seq ?_
      refine AW.runs [] (by simp -implicitDefEqProofs only [go_sem, hsz, hN1, hN2, ht19, ht93, hwi, hlt, hko, hkl]; rfl) (by trivial) ?_
      refine AW.if (by simp -implicitDefEqProofs only [go_sem, hsz, hN1, hN2, ht19, ht93, hwi, hlt, hko, hkl]; rfl) (fun ht102 => ?_) (fun ht102 => ?_)
      · have hs := hinv.seen hlt hwi (by rw [hko, ht102])
        refine AW.exit ?_
        show AW _ _ _ _ _
        refine AW.run [] (by simp -implicitDefEqProofs only [go_sem, hsz, hN1, hN2, ht19, ht93, hwi, hlt, hko, hkl, ht102]; rfl) (by trivial) ?_
        exact ⟨(idw, w, out, i + 1), Nat.add_lt_add_left (by show w.length - (i + 1) < w.length - i; omega) _, hs, ⟨by simp -implicitDefEqProofs only [go_sem], by simp -implicitDefEqProofs only [go_sem, hsz, hN1, hN2, ht19, ht93, hwi, hlt, hko, hkl, ht102, hstep]; try simp [hsz, hN1, hN2, ht19, ht93, hwi, hlt, hko, hkl, ht102, hstep]⟩⟩
      · have hs := hinv.new hf hlt hwi (by rw [hko, ht102])
        refine AW.skip ?_
        show AW _ _ _ _ _
        refine AW.runs [] (by simp -implicitDefEqProofs only [go_sem, hsz, hN1, hN2, ht19, ht93, hwi, hlt, hko, hkl, ht102]; rfl) (by trivial) ?_
        refine AW.runs [] (by simp -implicitDefEqProofs only [go_sem, hsz, hN1, hN2, ht19, ht93, hwi, hlt, hko, hkl, ht102]; rfl) (by trivial) ?_
        refine AW.block ?_
        refine AW.forH (X := Nat × List Int) (f.blocks.length) (fun c y => [(1, .box g0 (fnRow f)), (3, .own (g0 + 1) 1 ((out.set k true).map boolRow)), (4, .own y.1 1 (y.2.map intRow)), (9, .int .i64 i), (10, .int .i64 c)]) (fun c y => y.2 = w ++ (f.blocks.take c).flatMap (blkBy k)) 155 ⟨(idw, w), by simp, ⟨by simp -implicitDefEqProofs only [go_sem], by simp -implicitDefEqProofs only [go_sem, hsz, hN1, hN2, ht19, ht93, hwi, hlt, hko, hkl, ht102]; try simp [hsz, hN1, hN2, ht19, ht93, hwi, hlt, hko, hkl, ht102]⟩⟩ fun c y g6 hic hinvc => ?_
        obtain ⟨idv, v⟩ := y
        simp only at hinvc ⊢
        refine AW.seq ?_
        refine AW.runs [] (by simp -implicitDefEqProofs only [go_sem, hsz, hN1, hN2, ht19, ht93, hwi, hlt, hko, hkl, ht102]; rfl) (by trivial) ?_
        refine AW.if (by simp -implicitDefEqProofs only [go_sem, hsz, hN1, hN2, ht19, ht93, hwi, hlt, hko, hkl, ht102]; rfl) (fun ht113 => ?_) (fun ht113 => ?_)
        · have hltc : c < f.blocks.length := lt_dec ht113
          obtain ⟨blk, hb⟩ := get_of_lt hltc
          have hbm := List.mem_of_getElem? hb
          have hil := hf.ins blk hbm
          refine AW.skip ?_
          show AW _ _ _ _ _
          refine AW.seq ?_
          refine AW.block ?_
          refine AW.runs [] (by simp -implicitDefEqProofs only [go_sem, hsz, hN1, hN2, ht19, ht93, hwi, hlt, hko, hkl, ht102, ht113, hb]; rfl) (by trivial) ?_
          refine AW.block ?_
          refine AW.forH (X := Nat × List Int) (blk.ins.length) (fun j z => [(1, .box g0 (fnRow f)), (3, .own (g0 + 1) 1 ((out.set k true).map boolRow)), (4, .own z.1 1 (z.2.map intRow)), (9, .int .i64 i), (10, .int .i64 c), (11, .int .i64 j)]) (fun j z => z.2 = w ++ ((f.blocks.take c).flatMap (blkBy k) ++ (blk.ins.take j).flatMap (insBy k))) 155 ⟨(idv, v), by rw [hinvc]; simp, ⟨by simp -implicitDefEqProofs only [go_sem], by simp -implicitDefEqProofs only [go_sem, hsz, hN1, hN2, ht19, ht93, hwi, hlt, hko, hkl, ht102, ht113, hb]; try simp [hsz, hN1, hN2, ht19, ht93, hwi, hlt, hko, hkl, ht102, ht113, hb]⟩⟩ fun j z g7 hij hinvj => ?_
          obtain ⟨idv, v⟩ := z
          simp only at hinvj ⊢
          refine AW.seq ?_
          refine AW.runs [] (by simp -implicitDefEqProofs only [go_sem, hsz, hN1, hN2, ht19, ht93, hwi, hlt, hko, hkl, ht102, ht113, hb]; rfl) (by trivial) ?_
          refine AW.if (by simp -implicitDefEqProofs only [go_sem, hsz, hN1, hN2, ht19, ht93, hwi, hlt, hko, hkl, ht102, ht113, hb]; rfl) (fun ht124 => ?_) (fun ht124 => ?_)
          · have hltj : j < blk.ins.length := lt_dec ht124
            obtain ⟨x, hx⟩ := get_of_lt hltj
            have hxa := hf.args blk hbm x (List.mem_of_getElem? hx)
            refine AW.skip ?_
            show AW _ _ _ _ _
            refine AW.seq ?_
            refine AW.block ?_
            have hgi : v[i]? = some (k : Int) := by rw [hinvj, List.getElem?_append_left hlt]; exact hwi
            have hil2 : i < v.length := (List.getElem?_eq_some_iff.1 hgi).1
            refine AW.has (n := 155) [(1, .box g0 (fnRow f)), (3, .own (g0 + 1) 1 ((out.set k true).map boolRow)), (4, .own idv 1 (v.map intRow)), (9, .int .i64 i), (10, .int .i64 c), (11, .int .i64 j)] (⟨by simp -implicitDefEqProofs only [go_sem], by simp -implicitDefEqProofs only [go_sem, hsz, hN1, hN2, ht19, ht93, hwi, hlt, hko, hkl, ht102, ht113, hb, ht124, hx, hgi, hil2]; try simp [hsz, hN1, hN2, ht19, ht93, hwi, hlt, hko, hkl, ht102, ht113, hb, ht124, hx, hgi, hil2]⟩) (fun g8 => ?_)
            refine AW.seq ?_
            refine AW.drw 14 [[], [0], [], [0, 1, 2], [0, 1, 2, 3], [0, 1, 2, 3, 4], [], [0, 1, 2, 3, 4, 5, 6], [0, 1, 2, 3, 4, 5, 6, 7], [0, 1, 2, 3, 4, 5, 6, 7, 8], [], [], [10, 11], [10, 11, 12], [0, 1, 2, 3, 4, 5, 6, 7, 8, 9, 10, 11, 12, 13]] [127, 128, 129, 130, 131, 132, 133, 134, 135, 136, 137, 138, 139, 140] [.int .i64 (makesOf x)] [] f_mix (by decide) (by rfl) (by rfl) rfl rfl (by simp -implicitDefEqProofs only [go_sem, hsz, hN1, hN2, ht19, ht93, hwi, hlt, hko, hkl, ht102, ht113, hb, ht124, hx, hgi, hil2]; rfl) (ob1 ((fun25 x).obi)) (by simp -implicitDefEqProofs only [go_sem, hsz, hN1, hN2, ht19, ht93, hwi, hlt, hko, hkl, ht102, ht113, hb, ht124, hx, hgi, hil2]; rfl) (by trivial) ?_
            show AW _ _ _ _ _
            refine AW.if (by simp -implicitDefEqProofs only [go_sem, hsz, hN1, hN2, ht19, ht93, hwi, hlt, hko, hkl, ht102, ht113, hb, ht124, hx, hgi, hil2]; rfl) (fun ht141 => ?_) (fun ht141 => ?_)
            · have hib : insBy k x = usesOf x := by unfold insBy; rw [ht141]; rfl
              have hvb : (v.length + (usesOf x).length) * 8 ≤ 140737488355328 := by have h1 := fm_len2 (insBy k) hx; have h2 := fm_len2 (blkBy k) hb; have h3 := hf.by_ k; have h4 := hinv.len hN; have h5 : insBy k x = usesOf x := (by unfold insBy; rw [ht141]; rfl); rw [h5] at h1; rw [hinvj]; unfold byLN at h3; change _ + (blk.ins.flatMap (insBy k)).length ≤ _ at h2; simp only [List.length_append]; omega
              refine AW.run [.fz ((usesOf x).map intRow)] (by simp -implicitDefEqProofs only [go_sem, hsz, hN1, hN2, ht19, ht93, hwi, hlt, hko, hkl, ht102, ht113, hb, ht124, hx, hgi, hil2, ht141, hvb]; rfl) (ob1 ((fun62 x hxa).obf)) ?_
              show AW _ _ _ _ _
              refine AW.run [] (by simp -implicitDefEqProofs only [go_sem, hsz, hN1, hN2, ht19, ht93, hwi, hlt, hko, hkl, ht102, ht113, hb, ht124, hx, hgi, hil2, ht141, hvb]; rfl) (by trivial) ?_
              exact ⟨hltj, (g8, v ++ usesOf x), by rw [hinvj, fm_take _ hx, hib]; simp, ⟨by simp -implicitDefEqProofs only [go_sem], by simp -implicitDefEqProofs only [go_sem, hsz, hN1, hN2, ht19, ht93, hwi, hlt, hko, hkl, ht102, ht113, hb, ht124, hx, hgi, hil2, ht141, hvb, step_int j (Nat.lt_of_lt_of_le hltj (by omega))]; try simp [hsz, hN1, hN2, ht19, ht93, hwi, hlt, hko, hkl, ht102, ht113, hb, ht124, hx, hgi, hil2, ht141, hvb, step_int j (Nat.lt_of_lt_of_le hltj (by omega))]⟩⟩
            · have hib : insBy k x = [] := by unfold insBy; rw [ht141]; rfl
              refine AW.skip ?_
              show AW _ _ _ _ _
              refine AW.run [] (by simp -implicitDefEqProofs only [go_sem, hsz, hN1, hN2, ht19, ht93, hwi, hlt, hko, hkl, ht102, ht113, hb, ht124, hx, hgi, hil2, ht141]; rfl) (by trivial) ?_
              exact ⟨hltj, (idv, v), by rw [hinvj, fm_take _ hx, hib]; simp, ⟨by simp -implicitDefEqProofs only [go_sem], by simp -implicitDefEqProofs only [go_sem, hsz, hN1, hN2, ht19, ht93, hwi, hlt, hko, hkl, ht102, ht113, hb, ht124, hx, hgi, hil2, ht141, step_int j (Nat.lt_of_lt_of_le hltj (by omega))]; try simp [hsz, hN1, hN2, ht19, ht93, hwi, hlt, hko, hkl, ht102, ht113, hb, ht124, hx, hgi, hil2, ht141, step_int j (Nat.lt_of_lt_of_le hltj (by omega))]⟩⟩
          · have hje := ge_dec ht124
            refine AW.exit ?_
            show AW _ _ _ _ _
            refine AW.run [] (by simp -implicitDefEqProofs only [go_sem, hsz, hN1, hN2, ht19, ht93, hwi, hlt, hko, hkl, ht102, ht113, hb, ht124]; rfl) (by trivial) ?_
            exact ⟨hltc, (idv, v), by rw [hinvj, List.take_of_length_le hje, fm_take _ hb]; rfl, ⟨by simp -implicitDefEqProofs only [go_sem], by simp -implicitDefEqProofs only [go_sem, hsz, hN1, hN2, ht19, ht93, hwi, hlt, hko, hkl, ht102, ht113, hb, ht124, step_int c (Nat.lt_of_lt_of_le hltc (by omega))]; try simp [hsz, hN1, hN2, ht19, ht93, hwi, hlt, hko, hkl, ht102, ht113, hb, ht124, step_int c (Nat.lt_of_lt_of_le hltc (by omega))]⟩⟩
        · have hce := ge_dec ht113
          have hwf : v = w ++ byLN f k := by rw [hinvc, List.take_of_length_le hce]; rfl
          subst hwf
          refine AW.exit ?_
          show AW _ _ _ _ _
          refine AW.run [] (by simp -implicitDefEqProofs only [go_sem, hsz, hN1, hN2, ht19, ht93, hwi, hlt, hko, hkl, ht102, ht113]; rfl) (by trivial) ?_
          exact ⟨(idv, w ++ byLN f k, out.set k true, i + 1), (by show _ < _; simp only; have h1 := count_set (out := out) (k := k) (by rw [hko, ht102]); have h2 := hf.by_ k; rw [List.length_append, ← h1, Nat.add_mul]; omega), hs, ⟨by simp -implicitDefEqProofs only [go_sem], by simp -implicitDefEqProofs only [go_sem, hsz, hN1, hN2, ht19, ht93, hwi, hlt, hko, hkl, ht102, ht113, hstep]; try simp [hsz, hN1, hN2, ht19, ht93, hwi, hlt, hko, hkl, ht102, ht113, hstep]⟩⟩
    · have hfin := hinv.done (ge_dec ht93)
      refine AW.exit ?_
      show AW _ _ _ _ _
      refine AW.runs [] (by simp -implicitDefEqProofs only [go_sem, hsz, hN1, hN2, ht19, ht93, hfin]; rfl) (by trivial) ?_
      exact AW.ret ⟨.inl rfl, _, rfl, by simp -implicitDefEqProofs only [go_sem, hfin]⟩
end Go.Proofs.Ytgoajlgkbcongaa.Vm
end
section
set_option linter.unusedVariables false
set_option linter.unusedSimpArgs false
set_option maxRecDepth 100000
set_option maxHeartbeats 4000000
namespace Go.Proofs.Ytgoajlgkbcongaa.Vm
open Go Go.RowKit Go.Proofs
/-- Law 20's own words: what stays of a row. -/
def keepB (need : List Bool) (x : Ins) : Bool := if rootB x then true else if x.op == 46 then true else if decide (makesOf x ≥ 0) then need.getD (makesOf x).toNat false else false
def rowJ (need : List Bool) (l : List Ins) : List Ins := (l.filter (keepB need)).map (dceIns need)
theorem rowJ_keep {need : List Bool} {l : List Ins} {i : Nat} {x : Ins} (h : l[i]? = some x) (hd : keepB need x = true) : rowJ need (l.take (i + 1)) = rowJ need (l.take i) ++ [dceIns need x] := by
  unfold rowJ
  rw [take_snoc h, List.filter_append, List.map_append, List.filter_cons, hd]; rfl
theorem rowJ_drop {need : List Bool} {l : List Ins} {i : Nat} {x : Ins} (h : l[i]? = some x) (hd : keepB need x = false) : rowJ need (l.take (i + 1)) = rowJ need (l.take i) := by
  unfold rowJ
  rw [take_snoc h, List.filter_append, List.map_append, List.filter_cons, hd]; simp
theorem rowJ_len (need : List Bool) (l : List Ins) : (rowJ need l).length ≤ l.length := by unfold rowJ; rw [List.length_map]; exact List.length_filter_le _ _
theorem root_same (need : List Bool) (x : Ins) : rootB (dceIns need x) = rootB x := by
  unfold rootB; rw [(dceIns_same need x).1, dce_makes]
/-- What DceJust asks of a function. -/
structure JustOk (f : Fn) (N : Nat) : Prop where
  law : LawOk f N
  a : ∀ b ∈ f.blocks, ∀ x ∈ b.ins, (x.op == 46) = true → x.a < (N : Int)
  makes : ∀ b ∈ f.blocks, ∀ x ∈ b.ins, makesOf x < (N : Int)
  row : ∀ b ∈ f.blocks, rowJ (needJ f N) b.ins = dceRow (needOf f N) b.ins
structure DceLaw3 (u : Unt) : Prop where
  ok : DceU u
  modest : Vm.Modest (dceUnit u)
  snd : SoundP (dceUnit u)
  like : LikeP (dceUnit u) u
  just : ∀ f ∈ u.funcs, JustOk f f.size.toNat
theorem fun5 (u : Unt) (hu : Vm.Modest u) (hc : cnt u ≤ 1099511627776) (hl : SoundP u → DceLaw3 u) : Fun Try.prog 5 [.agg (untRow u)] (fun r => r = .bool true) := by
  refine Fun.ok Try.func5 rfl (by rfl) 152 Try.ntmps5 (by rfl) fun hok K g0 => ?_
  simp -implicitDefEqProofs only [go_sem]
  obtain ⟨GI, hGI⟩ : ∃ G : Ins → List AV, G = insRow := ⟨_, rfl⟩
  have hGf : ∀ (id : Nat) (l : List Ins), (AV.own id 7 (l.map GI)).frz = .fz (l.map GI) := fun id l => by rw [hGI]; exact frz_inss' id l
  refine AW.runs [] (by simp -implicitDefEqProofs only [go_sem, hGf]; rfl) (by trivial) ?_
  refine AW.seq ?_
  refine AW.join [(1, .box g0 (untRow u)), (20, .bool (!goB u))] 152 ?_ (fun g1 => ?_)
  · cases c1 : smallOf u
    · refine AW.run [.bool (smallOf u)] (by simp -implicitDefEqProofs only [go_sem, hGf, c1]; rfl) (ob1 (by have h := (fun15 u hc).obb; (try simp only [insRow, hGf, c1] at h); exact h)) ?_
      exact ⟨by simp -implicitDefEqProofs only [go_sem], by simp -implicitDefEqProofs only [go_sem, hGf, c1, goB]; try simp [hGf, c1, goB]⟩
    · refine AW.run [.bool (smallOf u), .bool (dec (SoundP u))] (by simp -implicitDefEqProofs only [go_sem, hGf, c1]; rfl) (ob2 (by have h := (fun15 u hc).obb; (try simp only [insRow, hGf, c1] at h); exact h) ((fun16 u hu).obb)) ?_
      exact ⟨by simp -implicitDefEqProofs only [go_sem], by simp -implicitDefEqProofs only [go_sem, hGf, c1, goB]; try simp [hGf, c1, goB]⟩
  · refine AW.if (by simp -implicitDefEqProofs only [go_sem, hGf]; rfl) (fun ht20 => ?_) (fun ht20 => ?_)
    · refine AW.runs [.bool true] (by simp -implicitDefEqProofs only [go_sem, hGf, ht20]; rfl) (ob1 (worksT.obb)) ?_
      exact AW.ret ⟨.inl rfl, _, rfl, by simp -implicitDefEqProofs only [go_sem]⟩
    · have hgo : goB u = true := by simpa using ht20
      have hso : dec (SoundP u) = true := by unfold goB at hgo; revert hgo; cases smallOf u <;> simp
      replace hl := hl (dec_true.1 hso)
      obtain ⟨v, hv⟩ : ∃ v, v = dceUnit u := ⟨_, rfl⟩
      have hmod := hl.modest
      have hsn := hl.snd
      have hlk := hl.like
      rw [← hv] at hmod hsn hlk
      refine AW.skip ?_
      show AW _ _ _ _ _
      refine AW.runs [.agg (untRow u), .agg (untRow v)] (by simp -implicitDefEqProofs only [go_sem, hGf, ht20]; rfl) (ob2 ((fun18 u hu).obf) (by rw [hv]; exact (fun19 u hu hl.ok).obf)) ?_
      refine AW.seq ?_
      refine AW.runs [.bool true, .bool true] (by simp -implicitDefEqProofs only [go_sem, hGf, ht20]; rfl) (ob2 (by have h := (fun16 v hmod).obb; rw [dec_true.2 hsn] at h; exact h) ((fun21 v u hu hlk).obb)) ?_
      refine AW.if (by simp -implicitDefEqProofs only [go_sem, hGf, ht20]; rfl) (fun h => absurd h (by simp)) (fun _ => ?_)
      refine AW.skip ?_
      show AW _ _ _ _ _
      refine AW.seq ?_
      refine AW.runs [] (by simp -implicitDefEqProofs only [go_sem, hGf, ht20]; rfl) (by trivial) ?_
      refine AW.block ?_
      refine AW.forH (X := Unit) (u.funcs.length) (fun i _ => [(1, .box g0 (untRow u)), (3, .box g1 (untRow v)), (4, .int .i64 i)]) (fun i _ => True) 152 ⟨(), trivial, ⟨by simp -implicitDefEqProofs only [go_sem], by simp -implicitDefEqProofs only [go_sem, hGf, ht20]; try simp [hGf, ht20]⟩⟩ fun i _ g2 hii hinvi => ?_
      refine AW.seq ?_
      refine AW.runs [] (by simp -implicitDefEqProofs only [go_sem, hGf, ht20]; rfl) (by trivial) ?_
      refine AW.if (by simp -implicitDefEqProofs only [go_sem, hGf, ht20]; rfl) (fun ht38 => ?_) (fun ht38 => ?_)
      · have hlti : i < u.funcs.length := lt_dec ht38
        obtain ⟨f, hf⟩ := get_of_lt hlti
        have hfm := List.mem_of_getElem? hf
        have hbl := hu.blocks f hfm
        have hJ := hl.just f hfm
        obtain ⟨need, hnd⟩ : ∃ n, n = needJ f f.size.toNat := ⟨_, rfl⟩
        have hnl : need.length = f.size.toNat := by rw [hnd]; simp [needJ]
        obtain ⟨g, hgd⟩ : ∃ g, g = dceFn f := ⟨_, rfl⟩
        have hg : v.funcs[i]? = some g := by rw [hv, hgd]; exact map_get dceFn hf
        have hgl : (g.blocks.length : Int) = (f.blocks.length : Int) := by rw [hgd]; simp [dceFn, dceFnW]
        refine AW.skip ?_
        show AW _ _ _ _ _
        refine AW.seq ?_
        refine AW.block ?_
        refine AW.runs [] (by simp -implicitDefEqProofs only [go_sem, hGf, ht20, ht38, hf, hg, hgl]; rfl) (by trivial) ?_
        refine AW.runs [] (by simp -implicitDefEqProofs only [go_sem, hGf, ht20, ht38, hf, hg, hgl]; rfl) (by trivial) ?_
        refine AW.runs [.fz (need.map boolRow)] (by simp -implicitDefEqProofs only [go_sem, hGf, ht20, ht38, hf, hg, hgl]; rfl) (ob1 (by rw [hnd]; exact (fun24 f f.size.toNat hJ.law).obf)) ?_
        refine AW.seq ?_
        refine AW.runs [] (by simp -implicitDefEqProofs only [go_sem, hGf, ht20, ht38, hf, hg, hgl]; rfl) (by trivial) ?_
        refine AW.if (by simp -implicitDefEqProofs only [go_sem, hGf, ht20, ht38, hf, hg, hgl]; rfl) (fun h => absurd h (by simp)) (fun _ => ?_)
        refine AW.skip ?_
        show AW _ _ _ _ _
        refine AW.runs [] (by simp -implicitDefEqProofs only [go_sem, hGf, ht20, ht38, hf, hg, hgl]; rfl) (by trivial) ?_
        refine AW.block ?_
        refine AW.forH (X := Unit) (f.blocks.length) (fun b _ => [(1, .box g0 (untRow u)), (3, .box g1 (untRow v)), (4, .int .i64 i), (5, .box g2 (fnRow f)), (6, .box (g2 + 1) (fnRow g)), (7, .fz (need.map boolRow)), (8, .int .i64 b)]) (fun b _ => True) 152 ⟨(), trivial, ⟨by simp -implicitDefEqProofs only [go_sem], by simp -implicitDefEqProofs only [go_sem, hGf, ht20, ht38, hf, hg, hgl]; try simp [hGf, ht20, ht38, hf, hg, hgl]⟩⟩ fun b _ g3 hib hinvb => ?_
        refine AW.seq ?_
        refine AW.runs [] (by simp -implicitDefEqProofs only [go_sem, hGf, ht20, ht38, hf, hg, hgl]; rfl) (by trivial) ?_
        refine AW.if (by simp -implicitDefEqProofs only [go_sem, hGf, ht20, ht38, hf, hg, hgl]; rfl) (fun ht64 => ?_) (fun ht64 => ?_)
        · have hltb : b < f.blocks.length := lt_dec ht64
          obtain ⟨blk, hb⟩ := get_of_lt hltb
          have hbm := List.mem_of_getElem? hb
          have hil : blk.ins.length ≤ 1048576 := Nat.le_trans (ins_le hbm) (hu.ins f hfm)
          obtain ⟨gb, hgbd⟩ : ∃ gb, gb = dceBlk (needOf f f.size.toNat) blk := ⟨_, rfl⟩
          have hgb : g.blocks[b]? = some gb := by rw [hgd, hgbd]; exact map_get (dceBlk (needOf f f.size.toNat)) hb
          have hgt : gb.term = blk.term := by rw [hgbd]; rfl
          have hgi : gb.ins = rowJ need blk.ins := by rw [hgbd, hnd]; exact (hJ.row blk hbm).symm
          have hrl : (rowJ need blk.ins).length ≤ 1048576 := Nat.le_trans (rowJ_len need blk.ins) hil
          refine AW.skip ?_
          show AW _ _ _ _ _
          refine AW.seq ?_
          refine AW.block ?_
          refine AW.runs [] (by simp -implicitDefEqProofs only [go_sem, hGf, ht20, ht38, hf, hg, hgl, ht64, hb, hgb, hgt]; rfl) (by trivial) ?_
          refine AW.nilOwn (9, []) 7 (by simp -implicitDefEqProofs only [go_sem]) ?_
          refine AW.seq ?_
          refine AW.runs [] (by simp -implicitDefEqProofs only [go_sem, hGf, ht20, ht38, hf, hg, hgl, ht64, hb, hgb, hgt]; rfl) (by trivial) ?_
          refine AW.block ?_
          refine AW.forH (X := Nat) (blk.ins.length) (fun k z => [(1, .box g0 (untRow u)), (3, .box g1 (untRow v)), (4, .int .i64 i), (5, .box g2 (fnRow f)), (6, .box (g2 + 1) (fnRow g)), (7, .fz (need.map boolRow)), (8, .int .i64 b), (9, .own z 7 ((rowJ need (blk.ins.take k)).map GI)), (10, .int .i64 k)]) (fun k z => True) 152 ⟨g3, trivial, ⟨by simp -implicitDefEqProofs only [go_sem], by simp -implicitDefEqProofs only [go_sem, hGf, ht20, ht38, hf, hg, hgl, ht64, hb, hgb, hgt, List.take_zero, List.map_nil, rowJ, List.filter_nil]; try simp [hGf, ht20, ht38, hf, hg, hgl, ht64, hb, hgb, hgt, List.take_zero, List.map_nil, rowJ, List.filter_nil]⟩⟩ fun k z g4 hik hinvk => ?_
          refine AW.seq ?_
          refine AW.runs [] (by simp -implicitDefEqProofs only [go_sem, hGf, ht20, ht38, hf, hg, hgl, ht64, hb, hgb, hgt]; rfl) (by trivial) ?_
          refine AW.if (by simp -implicitDefEqProofs only [go_sem, hGf, ht20, ht38, hf, hg, hgl, ht64, hb, hgb, hgt]; rfl) (fun ht75 => ?_) (fun ht75 => ?_)
          · have hltk : k < blk.ins.length := lt_dec ht75
            obtain ⟨x, hx⟩ := get_of_lt hltk
            have hxm := List.mem_of_getElem? hx
            obtain ⟨y, hy⟩ : ∃ y, y = dceIns need x := ⟨_, rfl⟩
            have hyo : y.op = x.op := by rw [hy]; exact (dceIns_same need x).1
            have hyr : Ob.ok Try.prog ⟨26, [.agg (insRow y)], .bool (rootB x)⟩ := by have h := (fun26 y).obb; have e : rootB y = rootB x := (by rw [hy]; exact root_same need x); rw [e] at h; exact h
            refine AW.skip ?_
            show AW _ _ _ _ _
            refine AW.seq ?_
            refine AW.block ?_
            refine AW.runs [] (by simp -implicitDefEqProofs only [go_sem, hGf, ht20, ht38, hf, hg, hgl, ht64, hb, hgb, hgt, ht75, hx]; rfl) (by trivial) ?_
            refine AW.runs [.int .i64 (makesOf x)] (by simp -implicitDefEqProofs only [go_sem, hGf, ht20, ht38, hf, hg, hgl, ht64, hb, hgb, hgt, ht75, hx]; rfl) (ob1 ((fun25 x).obi)) ?_
            refine AW.join [(1, .box g0 (untRow u)), (3, .box g1 (untRow v)), (4, .int .i64 i), (5, .box g2 (fnRow f)), (6, .box (g2 + 1) (fnRow g)), (7, .fz (need.map boolRow)), (8, .int .i64 b), (9, .own z 7 ((rowJ need (blk.ins.take k)).map GI)), (10, .int .i64 k), (11, .box g4 (insRow y)), (12, .int .i64 (makesOf x))] 152 ?_ (fun g5 => ?_)
            · refine AW.join [(1, .box g0 (untRow u)), (3, .box g1 (untRow v)), (4, .int .i64 i), (5, .box g2 (fnRow f)), (6, .box (g2 + 1) (fnRow g)), (7, .fz (need.map boolRow)), (8, .int .i64 b), (9, .own z 7 ((rowJ need (blk.ins.take k)).map GI)), (10, .int .i64 k), (11, .box g4 (insRow x)), (12, .int .i64 (makesOf x)), (104, .bool (goneB need x))] 152 ?_ (fun g6 => ?_)
              · cases c1 : (x.op == 46)
                · refine AW.run [] (by simp -implicitDefEqProofs only [go_sem, hGf, ht20, ht38, hf, hg, hgl, ht64, hb, hgb, hgt, ht75, hx, c1]; rfl) (by trivial) ?_
                  exact ⟨by simp -implicitDefEqProofs only [go_sem], by simp -implicitDefEqProofs only [go_sem, hGf, ht20, ht38, hf, hg, hgl, ht64, hb, hgb, hgt, ht75, hx, c1, goneB]; try simp [hGf, ht20, ht38, hf, hg, hgl, ht64, hb, hgb, hgt, ht75, hx, c1, goneB]⟩
                · cases c2 : decide (x.a ≥ 0)
                  · refine AW.run [] (by simp -implicitDefEqProofs only [go_sem, hGf, ht20, ht38, hf, hg, hgl, ht64, hb, hgb, hgt, ht75, hx, c1, c2]; rfl) (by trivial) ?_
                    exact ⟨by simp -implicitDefEqProofs only [go_sem], by simp -implicitDefEqProofs only [go_sem, hGf, ht20, ht38, hf, hg, hgl, ht64, hb, hgb, hgt, ht75, hx, c1, c2, goneB]; try simp [hGf, ht20, ht38, hf, hg, hgl, ht64, hb, hgb, hgt, ht75, hx, c1, c2, goneB]⟩
                  · have hal := hJ.a blk hbm x hxm c1
                    obtain ⟨kk, hk⟩ := Int.eq_ofNat_of_zero_le (of_decide_eq_true c2)
                    obtain ⟨nb, hnb⟩ := get_of_lt (show kk < need.length by omega)
                    have hgd := getD_of (d := false) hnb
                    refine AW.run [] (by simp -implicitDefEqProofs only [go_sem, hGf, ht20, ht38, hf, hg, hgl, ht64, hb, hgb, hgt, ht75, hx, c1, c2, hk, hnb, hgd, nn]; rfl) (by trivial) ?_
                    exact ⟨by simp -implicitDefEqProofs only [go_sem], by simp -implicitDefEqProofs only [go_sem, hGf, ht20, ht38, hf, hg, hgl, ht64, hb, hgb, hgt, ht75, hx, c1, c2, hk, hnb, hgd, nn, goneB]; try simp [hGf, ht20, ht38, hf, hg, hgl, ht64, hb, hgb, hgt, ht75, hx, c1, c2, hk, hnb, hgd, nn, goneB]⟩
              · refine AW.if (by simp -implicitDefEqProofs only [go_sem, hGf, ht20, ht38, hf, hg, hgl, ht64, hb, hgb, hgt, ht75, hx]; rfl) (fun ht104 => ?_) (fun ht104 => ?_)
                · refine AW.run [] (by simp -implicitDefEqProofs only [go_sem, hGf, ht20, ht38, hf, hg, hgl, ht64, hb, hgb, hgt, ht75, hx, ht104]; rfl) (by trivial) ?_
                  exact ⟨by simp -implicitDefEqProofs only [go_sem], by simp -implicitDefEqProofs only [go_sem, hGf, ht20, ht38, hf, hg, hgl, ht64, hb, hgb, hgt, ht75, hx, ht104, dceIns, hy]; try simp [hGf, ht20, ht38, hf, hg, hgl, ht64, hb, hgb, hgt, ht75, hx, ht104, dceIns, hy]⟩
                · refine AW.skip ?_
                  exact ⟨by simp -implicitDefEqProofs only [go_sem], by simp -implicitDefEqProofs only [go_sem, hGf, ht20, ht38, hf, hg, hgl, ht64, hb, hgb, hgt, ht75, hx, ht104, dceIns, hy]; try simp [hGf, ht20, ht38, hf, hg, hgl, ht64, hb, hgb, hgt, ht75, hx, ht104, dceIns, hy]⟩
            · refine AW.join [(1, .box g0 (untRow u)), (3, .box g1 (untRow v)), (4, .int .i64 i), (5, .box g2 (fnRow f)), (6, .box (g2 + 1) (fnRow g)), (7, .fz (need.map boolRow)), (8, .int .i64 b), (9, .own z 7 ((rowJ need (blk.ins.take k)).map GI)), (10, .int .i64 k), (11, .box g4 (insRow y)), (122, .bool (keepB need x))] 152 ?_ (fun g7 => ?_)
              · cases c1 : rootB x
                · cases c2 : (y.op == 46)
                  · cases c3 : decide (makesOf x ≥ 0)
                    · refine AW.run [.bool (rootB x)] (by simp -implicitDefEqProofs only [go_sem, hGf, ht20, ht38, hf, hg, hgl, ht64, hb, hgb, hgt, ht75, hx, c1, c2, c3]; rfl) (ob1 (by have h := hyr; (try simp only [insRow, hGf, ht20, ht38, hf, hg, hgl, ht64, hb, hgb, hgt, ht75, hx, c1, c2, c3] at h); exact h)) ?_
                      exact ⟨by simp -implicitDefEqProofs only [go_sem], by simp -implicitDefEqProofs only [go_sem, hGf, ht20, ht38, hf, hg, hgl, ht64, hb, hgb, hgt, ht75, hx, c1, c2, c3, keepB, ← hyo]; try simp [hGf, ht20, ht38, hf, hg, hgl, ht64, hb, hgb, hgt, ht75, hx, c1, c2, c3, keepB, ← hyo]⟩
                    · have hml := hJ.makes blk hbm x hxm
                      obtain ⟨kk, hk⟩ := Int.eq_ofNat_of_zero_le (of_decide_eq_true c3)
                      obtain ⟨nb, hnb⟩ := get_of_lt (show kk < need.length by omega)
                      have hgd := getD_of (d := false) hnb
                      refine AW.run [.bool (rootB x)] (by simp -implicitDefEqProofs only [go_sem, hGf, ht20, ht38, hf, hg, hgl, ht64, hb, hgb, hgt, ht75, hx, c1, c2, c3, hk, hnb, hgd, nn]; rfl) (ob1 (by have h := hyr; (try simp only [insRow, hGf, ht20, ht38, hf, hg, hgl, ht64, hb, hgb, hgt, ht75, hx, c1, c2, c3, hk, hnb, hgd, nn] at h); exact h)) ?_
                      exact ⟨by simp -implicitDefEqProofs only [go_sem], by simp -implicitDefEqProofs only [go_sem, hGf, ht20, ht38, hf, hg, hgl, ht64, hb, hgb, hgt, ht75, hx, c1, c2, c3, hk, hnb, hgd, nn, keepB, ← hyo]; try simp [hGf, ht20, ht38, hf, hg, hgl, ht64, hb, hgb, hgt, ht75, hx, c1, c2, c3, hk, hnb, hgd, nn, keepB, ← hyo]⟩
                  · refine AW.run [.bool (rootB x)] (by simp -implicitDefEqProofs only [go_sem, hGf, ht20, ht38, hf, hg, hgl, ht64, hb, hgb, hgt, ht75, hx, c1, c2]; rfl) (ob1 (by have h := hyr; (try simp only [insRow, hGf, ht20, ht38, hf, hg, hgl, ht64, hb, hgb, hgt, ht75, hx, c1, c2] at h); exact h)) ?_
                    exact ⟨by simp -implicitDefEqProofs only [go_sem], by simp -implicitDefEqProofs only [go_sem, hGf, ht20, ht38, hf, hg, hgl, ht64, hb, hgb, hgt, ht75, hx, c1, c2, keepB, ← hyo]; try simp [hGf, ht20, ht38, hf, hg, hgl, ht64, hb, hgb, hgt, ht75, hx, c1, c2, keepB, ← hyo]⟩
                · refine AW.run [.bool (rootB x)] (by simp -implicitDefEqProofs only [go_sem, hGf, ht20, ht38, hf, hg, hgl, ht64, hb, hgb, hgt, ht75, hx, c1]; rfl) (ob1 (by have h := hyr; (try simp only [insRow, hGf, ht20, ht38, hf, hg, hgl, ht64, hb, hgb, hgt, ht75, hx, c1] at h); exact h)) ?_
                  exact ⟨by simp -implicitDefEqProofs only [go_sem], by simp -implicitDefEqProofs only [go_sem, hGf, ht20, ht38, hf, hg, hgl, ht64, hb, hgb, hgt, ht75, hx, c1, keepB, ← hyo]; try simp [hGf, ht20, ht38, hf, hg, hgl, ht64, hb, hgb, hgt, ht75, hx, c1, keepB, ← hyo]⟩
              · refine AW.if (by simp -implicitDefEqProofs only [go_sem, hGf, ht20, ht38, hf, hg, hgl, ht64, hb, hgb, hgt, ht75, hx]; rfl) (fun ht122 => ?_) (fun ht122 => ?_)
                · have hrow : (rowJ need (blk.ins.take k)).map GI ++ [[AV.int .u8 y.op, AV.int .i64 y.dst, AV.int .i64 y.a, AV.int .i64 y.b, AV.int .i64 y.var, AV.int .i64 y.num, AV.fz (y.args.map intRow)]] = (rowJ need (blk.ins.take (k + 1))).map GI := by rw [rowJ_keep hx ht122, List.map_append, hGI, ← hy]; rfl
                  have hlb : ((rowJ need (blk.ins.take k)).length + 1) * 72 ≤ 140737488355328 := by have := rowJ_len need (blk.ins.take k); rw [List.length_take] at this; omega
                  refine AW.run [] (by simp -implicitDefEqProofs only [go_sem, hGf, ht20, ht38, hf, hg, hgl, ht64, hb, hgb, hgt, ht75, hx, ht122, hrow, hlb]; rfl) (by trivial) ?_
                  show AW _ _ _ _ _
                  refine AW.run [] (by simp -implicitDefEqProofs only [go_sem, hGf, ht20, ht38, hf, hg, hgl, ht64, hb, hgb, hgt, ht75, hx, ht122, hrow, hlb]; rfl) (by trivial) ?_
                  exact ⟨hltk, (g7 + 1), trivial, ⟨by simp -implicitDefEqProofs only [go_sem], by simp -implicitDefEqProofs only [go_sem, hGf, ht20, ht38, hf, hg, hgl, ht64, hb, hgb, hgt, ht75, hx, ht122, hrow, hlb, step_int k (Nat.lt_of_lt_of_le hltk (by omega))]; try simp [hGf, ht20, ht38, hf, hg, hgl, ht64, hb, hgb, hgt, ht75, hx, ht122, hrow, hlb, step_int k (Nat.lt_of_lt_of_le hltk (by omega))]⟩⟩
                · have hrow := rowJ_drop hx ht122
                  refine AW.skip ?_
                  show AW _ _ _ _ _
                  refine AW.run [] (by simp -implicitDefEqProofs only [go_sem, hGf, ht20, ht38, hf, hg, hgl, ht64, hb, hgb, hgt, ht75, hx, ht122, hrow]; rfl) (by trivial) ?_
                  exact ⟨hltk, z, trivial, ⟨by simp -implicitDefEqProofs only [go_sem], by simp -implicitDefEqProofs only [go_sem, hGf, ht20, ht38, hf, hg, hgl, ht64, hb, hgb, hgt, ht75, hx, ht122, hrow, step_int k (Nat.lt_of_lt_of_le hltk (by omega))]; try simp [hGf, ht20, ht38, hf, hg, hgl, ht64, hb, hgb, hgt, ht75, hx, ht122, hrow, step_int k (Nat.lt_of_lt_of_le hltk (by omega))]⟩⟩
          · have hke := ge_dec ht75
            refine AW.exit ?_
            show AW _ _ _ _ _
            rw [List.take_of_length_le hke]
            refine AW.ice (9, []) (by simp -implicitDefEqProofs only [go_sem]; rfl) ?_
            refine AW.has (n := 152) [(1, .box g0 (untRow u)), (3, .box g1 (untRow v)), (4, .int .i64 i), (5, .box g2 (fnRow f)), (6, .box (g2 + 1) (fnRow g)), (7, .fz (need.map boolRow)), (8, .int .i64 b), (9, .fz ((rowJ need blk.ins).map GI))] (⟨by simp -implicitDefEqProofs only [go_sem], by simp -implicitDefEqProofs only [go_sem, hGf, ht20, ht38, hf, hg, hgl, ht64, hb, hgb, hgt, ht75]; try simp [hGf, ht20, ht38, hf, hg, hgl, ht64, hb, hgb, hgt, ht75]⟩) (fun g8 => ?_)
            refine AW.seq ?_
            refine AW.drw 21 [[], [0], [], [0, 1, 2], [0, 1, 2, 3], [0, 1, 2, 3, 4], [], [6], [], [6, 7, 8], [6, 7, 8, 9], [6, 7, 8, 9, 10], [0, 1, 2, 3, 4, 5, 6, 7, 8, 9, 10, 11], [0, 1, 2, 3, 4, 5, 6, 7, 8, 9, 10, 11, 12], [0, 1, 2, 3, 4, 5, 6, 7, 8, 9, 10, 11, 12, 13], [0, 1, 2, 3, 4, 5, 6, 7, 8, 9, 10, 11, 12, 13, 14], [0, 1, 2, 3, 4, 5, 6, 7, 8, 9, 10, 11, 12, 13], [0, 1, 2, 3, 4, 5, 6, 7, 8, 9, 10, 11, 12, 13, 14, 15, 16], [0, 1, 2, 3, 4, 5, 6, 7, 8, 9, 10, 11, 12, 13, 14, 15, 16, 17], [0, 1, 2, 3, 4, 5, 6, 7, 8, 9, 10, 11, 12, 13, 14, 15, 16, 17, 18], [0, 1, 2, 3, 4, 5, 6, 7, 8, 9, 10, 11, 12, 13], [0, 1, 2, 3, 4, 5, 6, 7, 8, 9, 10, 11, 12, 13, 14, 15, 16, 17, 18, 19, 20], [0, 1, 2, 3, 4, 5, 6, 7, 8, 9, 10, 11, 12, 13, 14, 15, 16, 17, 18, 19, 20, 21], [0, 1, 2, 3, 4, 5, 6, 7, 8, 9, 10, 11, 12, 13, 14, 15, 16, 17, 18, 19, 20, 21, 22]] [127, 128, 129, 130, 131, 132, 133, 134, 135, 136, 137, 138, 139, 140, 141, 142, 143, 144, 145, 146, 147] [] [.bool true] f_mix (by decide) (by rfl) (by rfl) rfl rfl (by simp -implicitDefEqProofs only [go_sem, hGf, ht20, ht38, hf, hg, hgl, ht64, hb, hgb, hgt, ht75]; rfl) (by trivial) (by simp -implicitDefEqProofs only [go_sem, hGf, ht20, ht38, hf, hg, hgl, ht64, hb, hgb, hgt, ht75]; rfl) (ob1 (by have h := (fun27 (rowJ need blk.ins) hrl).obb; rw [hGI]; rw [hgi]; exact h)) ?_
            show AW _ _ _ _ _
            refine AW.if (by simp -implicitDefEqProofs only [go_sem, hGf, ht20, ht38, hf, hg, hgl, ht64, hb, hgb, hgt, ht75]; rfl) (fun h => absurd h (by simp)) (fun _ => ?_)
            refine AW.skip ?_
            show AW _ _ _ _ _
            refine AW.run [] (by simp -implicitDefEqProofs only [go_sem, hGf, ht20, ht38, hf, hg, hgl, ht64, hb, hgb, hgt, ht75]; rfl) (by trivial) ?_
            exact ⟨hltb, (), trivial, ⟨by simp -implicitDefEqProofs only [go_sem], by simp -implicitDefEqProofs only [go_sem, hGf, ht20, ht38, hf, hg, hgl, ht64, hb, hgb, hgt, ht75, step_int b (Nat.lt_of_lt_of_le hltb (by omega))]; try simp [hGf, ht20, ht38, hf, hg, hgl, ht64, hb, hgb, hgt, ht75, step_int b (Nat.lt_of_lt_of_le hltb (by omega))]⟩⟩
        · refine AW.exit ?_
          show AW _ _ _ _ _
          refine AW.run [] (by simp -implicitDefEqProofs only [go_sem, hGf, ht20, ht38, hf, hg, hgl, ht64]; rfl) (by trivial) ?_
          exact ⟨hlti, (), trivial, ⟨by simp -implicitDefEqProofs only [go_sem], by simp -implicitDefEqProofs only [go_sem, hGf, ht20, ht38, hf, hg, hgl, ht64, step_int i (Nat.lt_of_lt_of_le hlti (by have := hu.funcs; omega))]; try simp [hGf, ht20, ht38, hf, hg, hgl, ht64, step_int i (Nat.lt_of_lt_of_le hlti (by have := hu.funcs; omega))]⟩⟩
      · refine AW.exit ?_
        show AW _ _ _ _ _
        refine AW.runs [.bool true] (by simp -implicitDefEqProofs only [go_sem, hGf, ht20, ht38]; rfl) (ob1 (worksT.obb)) ?_
        exact AW.ret ⟨.inl rfl, _, rfl, by simp -implicitDefEqProofs only [go_sem, hGf, ht20, ht38]⟩
end Go.Proofs.Ytgoajlgkbcongaa.Vm
end
section
set_option linter.unusedVariables false
set_option linter.unusedSimpArgs false
set_option maxRecDepth 100000
namespace Go.Proofs.Ytgoajlgkbcongaa.Vm
open Go Go.RowKit Go.Proofs
theorem no_makes {op : Int} (h : dceMakes op = false) : stayOp op = true ∨ noneOp op = true ∨ op = 46 := by
  unfold dceMakes at h
  split at h
  · exact .inl (by assumption)
  · split at h
    · exact .inr (.inl (by assumption))
    · exact .inr (.inr (by simpa using h))
theorem stay_facts {op : Int} (h : stayOp op = true) : op = 4 ∨ op = 5 ∨ op = 37 ∨ op = 42 ∨ op = 43 := by
  unfold stayOp at h
  simp only [Bool.or_eq_true, beq_iff_eq] at h
  omega
theorem none_facts {op : Int} (h : noneOp op = true) : op = 38 ∨ op = 40 ∨ op = 41 ∨ op = 44 ∨ op = 45 := by
  unfold noneOp at h
  simp only [Bool.or_eq_true, beq_iff_eq] at h
  omega
theorem stay_dst {x : Ins} (h : stayOp x.op = true) : makesOf x = x.dst := by
  have := stay_facts h
  unfold makesOf noDst
  rw [if_neg (by simp; omega)]
theorem none_dst {x : Ins} (h : noneOp x.op = true) : makesOf x = -1 := by
  have := none_facts h
  unfold makesOf noDst
  rw [if_pos (by simp; omega)]
theorem stay_no {op : Int} (h : stayOp op = true) : dceMakes op = false := by unfold dceMakes; rw [h]; rfl
theorem root_stay {x : Ins} (h : stayOp x.op = true) : rootB x = true := by unfold rootB; rw [h]; rfl
theorem root_none {x : Ins} (h : noneOp x.op = true) : rootB x = true := by
  have := none_facts h
  unfold rootB
  split
  · rfl
  · rw [if_pos (by simp; omega), none_dst h]; rfl
theorem root_cases {x : Ins} (h : rootB x = true) : stayOp x.op = true ∨ (x.op ≠ 46 ∧ makesOf x < 0) := by
  unfold rootB at h
  split at h
  · exact .inl (by assumption)
  · split at h
    · rename_i h1; exact .inr ⟨by simpa using h1, by simpa using h⟩
    · cases h
theorem lroots_mem {x : Ins} {v : Int} : v ∈ lroots x ↔ rootB x = true ∧ (v ∈ usesOf x ∨ (0 ≤ makesOf x ∧ v = makesOf x)) := by
  unfold lroots
  cases hr : rootB x with
  | false => simp
  | true =>
    simp only [if_true, List.mem_append, true_and]
    by_cases h : makesOf x ≥ 0
    · rw [if_pos (by simpa using h)]; simp [show 0 ≤ makesOf x from h]
    · rw [if_neg (by simpa using h)]; simp; intro h2; omega
theorem ltermR_mem {t : Term} {v : Int} : v ∈ ltermR t ↔ t.kind ≠ 1 ∧ 0 ≤ t.a ∧ v = t.a := by
  unfold ltermR ltB
  by_cases hk : t.kind = 1
  · simp [hk]
  · by_cases ha : t.a ≥ 0
    · simp [hk, ha]
    · simp [hk, ha]
theorem rtsL_mem {f : Fn} {v : Int} : v ∈ rtsL f ↔ (∃ b ∈ f.blocks, b.term.kind ≠ 1 ∧ 0 ≤ b.term.a ∧ v = b.term.a) ∨ ∃ x ∈ allIns f, v ∈ lroots x := by
  unfold rtsL
  rw [List.mem_flatMap]
  constructor
  · rintro ⟨b, hb, h⟩
    unfold lblk at h
    rw [List.mem_append, List.mem_flatMap] at h
    rcases h with h | ⟨x, hx, h⟩
    · exact .inl ⟨b, hb, ltermR_mem.1 h⟩
    · exact .inr ⟨x, allIns_mem.2 ⟨b, hb, hx⟩, h⟩
  · rintro (⟨b, hb, h⟩ | ⟨x, hx, h⟩)
    · exact ⟨b, hb, by unfold lblk; exact List.mem_append_left _ (ltermR_mem.2 h)⟩
    · obtain ⟨b, hb, hx⟩ := allIns_mem.1 hx
      exact ⟨b, hb, by unfold lblk; exact List.mem_append_right _ (List.mem_flatMap.2 ⟨x, hx, h⟩)⟩
theorem byLN_mem {f : Fn} {k : Nat} {v : Int} : v ∈ byLN f k ↔ ∃ x ∈ allIns f, makesOf x = (k : Int) ∧ v ∈ usesOf x := by
  unfold byLN
  rw [List.mem_flatMap]
  constructor
  · rintro ⟨b, hb, h⟩
    unfold blkBy at h
    rw [List.mem_flatMap] at h
    obtain ⟨x, hx, h⟩ := h
    unfold insBy at h
    split at h
    · rename_i h1; exact ⟨x, allIns_mem.2 ⟨b, hb, hx⟩, by simpa using h1, h⟩
    · simp at h
  · rintro ⟨x, hx, h1, h2⟩
    obtain ⟨b, hb, hx⟩ := allIns_mem.1 hx
    refine ⟨b, hb, ?_⟩
    unfold blkBy
    rw [List.mem_flatMap]
    exact ⟨x, hx, by unfold insBy; rw [if_pos (by simpa using h1)]; exact h2⟩
theorem one_maker {f : Fn} (hS : SndFn f) {x z : Ins} (hx : x ∈ allIns f) (hz : z ∈ allIns f) (h0 : 0 ≤ makesOf x) (h : makesOf z = makesOf x) : x = z := by
  obtain ⟨b, hb, hxb⟩ := allIns_mem.1 hx
  obtain ⟨c, hc, hzc⟩ := allIns_mem.1 hz
  obtain ⟨i, hi⟩ := List.getElem?_of_mem hb
  obtain ⟨k, hk⟩ := List.getElem?_of_mem hxb
  obtain ⟨i2, hi2⟩ := List.getElem?_of_mem hc
  obtain ⟨k2, hk2⟩ := List.getElem?_of_mem hzc
  have e1 := ((hS.blks i b hi).ins k x hk).made h0
  have e2 := ((hS.blks i2 c hi2).ins k2 z hk2).made (by rw [h]; exact h0)
  rw [h, e1] at e2
  cases e2
  rw [hi] at hi2; cases hi2
  rw [hk] at hk2; cases hk2
  rfl
section
variable {u : Unt} {n : Nat} {f : Fn} {N : Nat}
theorem ins_facts (hF : FOk u n f) (hS : SndFn f) {x : Ins} (hx : x ∈ allIns f) : badDst f x = false ∧ x.op ≠ 35 ∧ (∀ y ∈ usesOf x, 0 ≤ y ∧ y < f.size) := by
  obtain ⟨b, hb, hx⟩ := allIns_mem.1 hx
  obtain ⟨i, hi⟩ := List.getElem?_of_mem hb
  obtain ⟨k, hk⟩ := List.getElem?_of_mem hx
  exact ⟨(hF.fn.ins i b hi k x hk).dst, no35 ((hS.blks i b hi).ins k x hk), (hF.fn.ins i b hi k x hk).uses⟩
theorem need_same (hF : FOk u n f) (hS : SndFn f) (k : Nat) : ReachB (byLN f) (rtsL f) k ↔ NeededP f k := by
  have hroot : ∀ x ∈ allIns f, dceMakes x.op = false → x.op ≠ 46 → ∀ v : Nat, (v : Int) ∈ usesOf x → NeededP f v := fun x hx h1 h2 v hv =>
    .inl (.root (roots_ins hx h1 h2 (uses_looks (ins_facts hF hS hx).2.1 h2 hv)))
  constructor
  · intro h
    induction h with
    | @root v h =>
      rcases rtsL_mem.1 h with ⟨b, hb, h1, h2, h3⟩ | ⟨x, hx, h⟩
      · exact .inl (.root (by rw [h3]; exact roots_term hb h1))
      · obtain ⟨h1, h2⟩ := lroots_mem.1 h
        obtain ⟨k1, k2, k3⟩ := ins_facts hF hS hx
        rcases root_cases h1 with hst | ⟨h46, hneg⟩
        · have hop := stay_facts hst
          rcases h2 with h2 | ⟨h2, h3⟩
          · exact hroot x hx (stay_no hst) (by omega) v h2
          · rw [stay_dst hst] at h2 h3
            have h4 := (dst_facts k1).1
            rw [stay_dst hst] at h4
            refine .inr ⟨x, hx, ?_, h3.symm⟩
            unfold stayHere
            rw [stay_no hst, if_neg (by simp), if_pos (by simp; omega), if_pos (by simp; omega), if_pos (by simp; omega)]
            exact hst
        · rcases h2 with h2 | ⟨h2, h3⟩
          · cases hm : dceMakes x.op with
            | true =>
              have := makes_pos hm k2 k1
              rw [makes_dst hm k2] at hneg
              omega
            | false => exact hroot x hx hm h46 v h2
          · omega
    | @step w v hw hv ih =>
      obtain ⟨x, hx, h1, h2⟩ := byLN_mem.1 hv
      obtain ⟨k1, k2, k3⟩ := ins_facts hF hS hx
      cases hm : dceMakes x.op with
      | true =>
        have hop := dceMakes_facts hm
        have hl := uses_looks k2 (by omega) h2
        rw [makes_dst hm k2] at h1
        rcases ih with ih | ⟨z, hz, hs, hzd⟩
        · exact .inl (.step ih (byL_mem.2 ⟨x, hx, hm, h1, hl⟩))
        · exfalso
          have hst : dceMakes z.op = false ∧ stayOp z.op = true := by
            unfold stayHere at hs
            split at hs
            · cases hs
            · rename_i h1
              split at hs
              · split at hs
                · split at hs
                  · exact ⟨by simpa using h1, hs⟩
                  · cases hs
                · cases hs
              · cases hs
          have := one_maker hS hx hz (by rw [makes_dst hm k2, h1]; omega) (by rw [stay_dst hst.2, makes_dst hm k2, hzd, h1])
          subst this
          rw [hst.1] at hm; cases hm
      | false =>
        rcases no_makes hm with hst | hno | h46
        · have := stay_facts hst
          exact hroot x hx hm (by omega) v h2
        · rw [none_dst hno] at h1; omega
        · have : makesOf x = -1 := by unfold makesOf noDst; rw [if_pos (by simp [h46])]
          omega
  · rintro (h | ⟨x, hx, hs, hk⟩)
    · induction h with
      | @root v h =>
        rcases roots_cases h with ⟨x, hx, h1, h2, h3⟩ | ⟨b, hb, h1, h2⟩
        · refine .root (rtsL_mem.2 (.inr ⟨x, hx, lroots_mem.2 ⟨?_, .inl (looks_uses h3)⟩⟩))
          rcases no_makes h1 with h | h | h
          · exact root_stay h
          · exact root_none h
          · exact absurd h h2
        · exact .root (rtsL_mem.2 (.inl ⟨b, hb, h1, by omega, h2⟩))
      | @step w v hw hv ih =>
        obtain ⟨x, hx, h1, h2, h3⟩ := byL_mem.1 hv
        have k2 := (ins_facts hF hS hx).2.1
        exact .step ih (byLN_mem.2 ⟨x, hx, by rw [makes_dst h1 k2]; exact h2, looks_uses h3⟩)
    · have hst : stayOp x.op = true := by
        unfold stayHere at hs
        split at hs
        · cases hs
        · split at hs
          · split at hs
            · split at hs
              · exact hs
              · cases hs
            · cases hs
          · cases hs
      exact .root (rtsL_mem.2 (.inr ⟨x, hx, lroots_mem.2 ⟨root_stay hst, .inr ⟨by rw [stay_dst hst, hk]; omega, by rw [stay_dst hst, hk]⟩⟩⟩))
theorem needJ_same (hF : FOk u n f) (hS : SndFn f) : needJ f N = needOf f N := by
  unfold needJ needOf
  refine List.map_congr_left fun k _ => ?_
  by_cases h : NeededP f k
  · rw [dec_true.2 h, dec_true.2 ((need_same hF hS k).2 h)]
  · rw [dec_false.2 h, dec_false.2 (fun c => h ((need_same hF hS k).1 c))]
theorem row_same (hF : FOk u n f) (hS : SndFn f) {b : Block} (hb : b ∈ f.blocks) : rowJ (needJ f N) b.ins = dceRow (needOf f N) b.ins := by
  rw [needJ_same hF hS]
  unfold rowJ dceRow
  have : b.ins.filter (keepB (needOf f N)) = b.ins.filter (fun x => !dropB (needOf f N) x) := by
    refine List.filter_congr fun x hx => ?_
    have hxa := allIns_mem.2 ⟨b, hb, hx⟩
    obtain ⟨k1, k2, k3⟩ := ins_facts hF hS hxa
    cases hm : dceMakes x.op with
    | true =>
      have hop := dceMakes_facts hm
      obtain ⟨d0, d1⟩ := makes_pos hm k2 k1
      have hr : rootB x = false := by
        cases hr : rootB x with
        | false => rfl
        | true =>
          rcases root_cases hr with h | ⟨_, h⟩
          · rw [stay_no h] at hm; cases hm
          · rw [makes_dst hm k2] at h; omega
      unfold keepB
      rw [hr, if_neg (by simp), if_neg (by simp; omega), makes_dst hm k2, if_pos (by simp; omega), drop_need hm]
      simp
    | false =>
      rw [drop_no hm]
      unfold keepB
      rcases no_makes hm with h | h | h
      · rw [root_stay h]; rfl
      · rw [root_none h]; rfl
      · split
        · rfl
        · rw [if_pos (by simpa using h)]; rfl
  rw [this]
/-! ### The bounds -/
theorem uses_sz (x : Ins) : (usesOf x).length ≤ 2 * szIns x := by
  unfold usesOf szIns
  rw [sum_ones]
  repeat' split
  all_goals (try simp only [List.length_cons, List.length_nil])
  all_goals omega
theorem fm_sum {α β : Type} (g : α → List β) (w : α → Nat) (c : Nat) (l : List α) (h : ∀ x ∈ l, (g x).length ≤ c * w x) : (l.flatMap g).length ≤ c * (l.map w).sum := by
  induction l with
  | nil => simp
  | cons x l ih =>
    have h1 := h x (by simp)
    have h2 := ih (fun y hy => h y (by simp [hy]))
    simp only [List.flatMap_cons, List.length_append, List.map_cons, List.sum_cons, Nat.mul_add]
    omega
theorem rts_sz (f : Fn) : (rtsL f).length ≤ 3 * szFn f := by
  have h : (rtsL f).length ≤ 3 * (f.blocks.map szBlock).sum := fm_sum _ _ _ _ fun b _ => by
    have h2 : (b.ins.flatMap lroots).length ≤ 3 * (b.ins.map szIns).sum := fm_sum _ _ _ _ fun x _ => by
      have h3 := uses_sz x
      have h4 : 1 ≤ szIns x := by unfold szIns; omega
      unfold lroots
      split
      · rw [List.length_append]
        split
        · simp only [List.length_cons, List.length_nil]; omega
        · simp only [List.length_nil]; omega
      · simp
    have h5 : (ltermR b.term).length ≤ 1 := by unfold ltermR; split <;> simp
    unfold lblk szBlock
    rw [List.length_append]; omega
  unfold szFn; omega
theorem by_sz (f : Fn) (k : Nat) : (byLN f k).length ≤ 3 * szFn f := by
  have h : (byLN f k).length ≤ 3 * (f.blocks.map szBlock).sum := fm_sum _ _ _ _ fun b _ => by
    have h2 : (b.ins.flatMap (insBy k)).length ≤ 3 * (b.ins.map szIns).sum := fm_sum _ _ _ _ fun x _ => by
      have h3 := uses_sz x
      unfold insBy
      split
      · omega
      · simp
    unfold blkBy szBlock
    omega
  unfold szFn; omega
theorem just_of (hm : Vm.Modest u) (hsz : szFn f ≤ 1048576) (hfm : f ∈ u.funcs) (hF : FOk u n f) (hS : SndFn f) : JustOk f f.size.toNat := by
  obtain ⟨k1, k2, k3, k4, k5, k6⟩ := head_facts hF.fn.head
  have hN : f.size = (f.size.toNat : Int) := by omega
  refine ⟨⟨hN, by omega, k2, fun b hb => ?_, hm.args f hfm, ?_, fun k => ?_, fun v hv => ?_, fun k v hv => ?_⟩, fun b hb x hx h46 => ?_, fun b hb x hx => ?_, fun b hb => row_same hF hS hb⟩
  · have := ins_le hb; have := hF.fn.many; omega
  · have := rts_sz f; omega
  · have := by_sz f k; omega
  · rcases rtsL_mem.1 hv with ⟨b, hb, h1, h2, h3⟩ | ⟨x, hx, h⟩
    · rcases term_facts (hF.fn.terms b hb).bad with h4 | h4
      · exact absurd h4 h1
      · exact ⟨v.toNat, by omega, by omega⟩
    · obtain ⟨e1, e2, e3⟩ := ins_facts hF hS hx
      obtain ⟨h1, h2⟩ := lroots_mem.1 h
      rcases h2 with h2 | ⟨h2, h3⟩
      · have := e3 v h2
        exact ⟨v.toNat, by omega, by omega⟩
      · have := (dst_facts e1).1
        exact ⟨v.toNat, by omega, by omega⟩
  · obtain ⟨x, hx, h1, h2⟩ := byLN_mem.1 hv
    have := (ins_facts hF hS hx).2.2 v h2
    exact ⟨v.toNat, by omega, by omega⟩
  · have h1 := (ins_facts hF hS (allIns_mem.2 ⟨b, hb, hx⟩)).2.2
    rw [bind_uses h46] at h1
    by_cases h2 : x.a ≥ 0
    · rw [if_pos (by simpa using h2)] at h1
      have := h1 x.a (by simp)
      omega
    · omega
  · have := (dst_facts (ins_facts hF hS (allIns_mem.2 ⟨b, hb, hx⟩)).1).1
    omega
end
theorem dce_like (u : Unt) : LikeP (dceUnit u) u where
  main := rfl
  points := rfl
  len := by unfold dceUnit; simp
  fn := by
    intro i g f hg hf
    change (u.funcs.map dceFn)[i]? = some g at hg
    rw [List.getElem?_map, hf] at hg
    cases hg
    exact ⟨rfl, rfl, rfl, rfl⟩
theorem dceLaw3_of {u : Unt} (h : SoundP u) (hb : szUnt u ≤ 1048576) : DceLaw3 u where
  ok := dceU_of (modest_of hb) h
  modest := dce_modest (modest_of hb)
  snd := dce_sound (modest_of hb) h
  like := dce_like u
  just := by
    intro f hf
    obtain ⟨n, hn⟩ := List.getElem?_of_mem hf
    exact just_of (modest_of hb) (by have := le_sum szFn hf; unfold szUnt at hb; omega) hf (h.may.funcs n f hn) (h.fn n f hn)
end Go.Proofs.Ytgoajlgkbcongaa.Vm
end
