/- Contracts of functions, second part: for every argument within the stated bounds the function returns the stated value. -/
import Derived.Test.YtgoajlgkbcongaaMaD
section
set_option linter.unusedVariables false
set_option linter.unusedSimpArgs false
set_option maxRecDepth 100000
set_option maxHeartbeats 4000000
namespace Go.Proofs.Ytgoajlgkbcongaa.Vm
open Go Go.RowKit Go.Proofs
def badHead (f : Fn) : Bool := if decide ((f.blocks.length : Int) < 1) then true else if decide ((f.blocks.length : Int) > 2000) then true else if decide (f.size < 0) then true else if decide (f.size > 524288) then true else
  if decide (f.params < 0) then true else decide (f.params > (f.vars.length : Int))
def retOk (f : Fn) (t : Term) : Bool := if t.kind == 3 then (if decide (t.a ≥ -1) then decide (t.a < f.size) else false) else false
def badTerm (f : Fn) (t : Term) : Bool := if t.kind != 1 then (if retOk f t then false else if t.kind != 2 then true else if decide (t.a < 0) then true else decide (t.a ≥ f.size)) else false
def badKnown (u : Unt) (n : Nat) (f : Fn) (i : Nat) (hd : Bool) (x : Ins) : Bool :=
  if knownOf u n f x then (if x.op == 47 then (if hd then (if ((i : Int) == 0) then true else ((x.args.length : Int) != ((((waysOf (termsOf f))[i]?).getD []).length : Int))) else true) else false) else true
def badDst (f : Fn) (x : Ins) : Bool := if decide (makesOf x ≥ f.size) then true else if decide (makesOf x < -1) then true else if decide (makesOf x < 0) then (if x.op != 42 then !noDst x.op else false) else false
def phis (l : List Ins) : Bool := l.all fun x => x.op == 47
def badTo (f : Fn) (y : Int) : Bool := if decide (y < 0) then true else decide (y ≥ (f.blocks.length : Int))
def badUse (f : Fn) (y : Int) : Bool := if decide (y < 0) then true else decide (y ≥ f.size)
theorem badTo_f {f : Fn} {y : Int} (h : badTo f y = false) : 0 ≤ y ∧ y < (f.blocks.length : Int) := by
  unfold badTo at h
  cases h0 : decide (y < 0) <;> simp only [h0, if_tt, if_ff] at h
  · have := of_decide_eq_false h0; have := of_decide_eq_false h; omega
  · cases h
theorem badUse_f {f : Fn} {y : Int} (h : badUse f y = false) : 0 ≤ y ∧ y < f.size := by
  unfold badUse at h
  cases h0 : decide (y < 0) <;> simp only [h0, if_tt, if_ff] at h
  · have := of_decide_eq_false h0; have := of_decide_eq_false h; omega
  · cases h
structure InsOk (u : Unt) (n : Nat) (f : Fn) (i : Nat) (hd : Bool) (x : Ins) : Prop where
  known : badKnown u n f i hd x = false
  dst : badDst f x = false
  uses : ∀ y ∈ usesOf x, 0 ≤ y ∧ y < f.size
structure TermOk (f : Fn) (t : Term) : Prop where
  next : ∀ y ∈ nextOf t, 0 ≤ y ∧ y < (f.blocks.length : Int)
  bad : badTerm f t = false
def insTo (f : Fn) (i : Nat) : Nat := ((f.blocks.take i).map fun b => b.ins.length).sum
def BlockOk (u : Unt) (n : Nat) (f : Fn) (i : Nat) (b : Block) : Prop := ∀ k x, b.ins[k]? = some x → InsOk u n f i (phis (b.ins.take (k + 1))) x
/-- May a function be? -/
structure FnOk (u : Unt) (n : Nat) (f : Fn) : Prop where
  head : badHead f = false
  terms : ∀ b ∈ f.blocks, TermOk f b.term
  many : insTo f f.blocks.length ≤ 524288
  ins : ∀ (i : Nat) (b : Block), f.blocks[i]? = some b → BlockOk u n f i b
theorem phis_take {l : List Ins} {k : Nat} {x : Ins} (h : l[k]? = some x) : phis (l.take (k + 1)) = (phis (l.take k) && (x.op == 47)) := by
  unfold phis
  rw [List.take_add_one, h]
  simp [List.all_append]
theorem badHead_f {f : Fn} (h : badHead f = false) : 1 ≤ f.blocks.length ∧ f.blocks.length ≤ 2000 ∧ 0 ≤ f.size ∧ f.size ≤ 524288 ∧ 0 ≤ f.params ∧ f.params ≤ (f.vars.length : Int) := by
  unfold badHead at h
  cases h1 : decide ((f.blocks.length : Int) < 1) <;> simp only [h1, if_tt, if_ff] at h <;> try (cases h; done)
  cases h2 : decide ((f.blocks.length : Int) > 2000) <;> simp only [h2, if_tt, if_ff] at h <;> try (cases h; done)
  cases h3 : decide (f.size < 0) <;> simp only [h3, if_tt, if_ff] at h <;> try (cases h; done)
  cases h4 : decide (f.size > 524288) <;> simp only [h4, if_tt, if_ff] at h <;> try (cases h; done)
  cases h5 : decide (f.params < 0) <;> simp only [h5, if_tt, if_ff] at h <;> try (cases h; done)
  have a1 := of_decide_eq_false h1
  have a2 := of_decide_eq_false h2
  have a3 := of_decide_eq_false h3
  have a4 := of_decide_eq_false h4
  have a5 := of_decide_eq_false h5
  have a6 := of_decide_eq_false h
  omega
theorem targets_of {f : Fn} (h : ∀ b ∈ f.blocks, TermOk f b.term) : Targets (termsOf f) := by
  intro t ht y hy
  obtain ⟨b, hb, rfl⟩ := List.mem_map.1 ht
  have := (h b hb).next y hy
  simpa [termsOf] using this
/-- Instructions of a modest size. -/
def ArgsLe (f : Fn) : Prop := ∀ b ∈ f.blocks, ∀ x ∈ b.ins, x.args.length ≤ 1048576
theorem nat0 : (((0 : Nat)) : Int) = 0 := rfl
attribute [go_sem] nat0
theorem upto {α : Type} {l : List α} {i : Nat} {x : α} {p : Nat → α → Prop} (h : ∀ j y, j < i → l[j]? = some y → p j y) (hx : l[i]? = some x) (hp : p i x) : ∀ j y, j < i + 1 → l[j]? = some y → p j y := fun j y hj hy => by
  rcases Nat.lt_or_ge j i with h1 | h1
  · exact h j y h1 hy
  · obtain rfl : j = i := by omega
    rw [hx] at hy; cases hy; exact hp
attribute [go_sem] Bool.true_and Bool.false_and Option.getD_some
theorem fun61 (u : Unt) (n : Nat) (f : Fn) (hf : u.funcs[n]? = some f) (ha : ArgsLe f) (hm : insTo f f.blocks.length ≤ 1099511627776) : Fun Try.prog 61 [.agg (untRow u), .int .i64 n] (fun r => r = .bool (dec (FnOk u n f))) := by
  refine Fun.ok Try.func61 rfl (by rfl) 253 Try.ntmps61 (by rfl) fun hok K g0 => ?_
  simp -implicitDefEqProofs only [go_sem]
  refine AW.runs [] (by simp -implicitDefEqProofs only [go_sem, hf]; rfl) (by trivial) ?_
  refine AW.runs [] (by simp -implicitDefEqProofs only [go_sem, hf]; rfl) (by trivial) ?_
  refine AW.seq ?_
  refine AW.join [(1, .int .i64 n), (2, .box g0 (untRow u)), (5, .box (g0 + 1) (fnRow f)), (57, .bool (badHead f))] 253 ?_ (fun g1 => ?_)
  · cases c1 : decide ((f.blocks.length : Int) < 1)
    · cases c2 : decide ((f.blocks.length : Int) > 2000)
      · cases c3 : decide (f.size < 0)
        · cases c4 : decide (f.size > 524288)
          · cases c5 : decide (f.params < 0)
            · refine AW.run [] (by simp -implicitDefEqProofs only [go_sem, hf, c1, c2, c3, c4, c5]; rfl) (by trivial) ?_
              exact ⟨by simp -implicitDefEqProofs only [go_sem], by simp -implicitDefEqProofs only [go_sem, hf, c1, c2, c3, c4, c5, badHead]⟩
            · refine AW.run [] (by simp -implicitDefEqProofs only [go_sem, hf, c1, c2, c3, c4, c5]; rfl) (by trivial) ?_
              exact ⟨by simp -implicitDefEqProofs only [go_sem], by simp -implicitDefEqProofs only [go_sem, hf, c1, c2, c3, c4, c5, badHead]⟩
          · refine AW.run [] (by simp -implicitDefEqProofs only [go_sem, hf, c1, c2, c3, c4]; rfl) (by trivial) ?_
            exact ⟨by simp -implicitDefEqProofs only [go_sem], by simp -implicitDefEqProofs only [go_sem, hf, c1, c2, c3, c4, badHead]⟩
        · refine AW.run [] (by simp -implicitDefEqProofs only [go_sem, hf, c1, c2, c3]; rfl) (by trivial) ?_
          exact ⟨by simp -implicitDefEqProofs only [go_sem], by simp -implicitDefEqProofs only [go_sem, hf, c1, c2, c3, badHead]⟩
      · refine AW.run [] (by simp -implicitDefEqProofs only [go_sem, hf, c1, c2]; rfl) (by trivial) ?_
        exact ⟨by simp -implicitDefEqProofs only [go_sem], by simp -implicitDefEqProofs only [go_sem, hf, c1, c2, badHead]⟩
    · refine AW.run [] (by simp -implicitDefEqProofs only [go_sem, hf, c1]; rfl) (by trivial) ?_
      exact ⟨by simp -implicitDefEqProofs only [go_sem], by simp -implicitDefEqProofs only [go_sem, hf, c1, badHead]⟩
  · refine AW.if (by simp -implicitDefEqProofs only [go_sem, hf]; rfl) (fun ht57 => ?_) (fun ht57 => ?_)
    · refine AW.runs [] (by simp -implicitDefEqProofs only [go_sem, hf, ht57]; rfl) (by trivial) ?_
      exact AW.ret ⟨.inl rfl, _, rfl, Eq.trans (b := .bool false) (by simp -implicitDefEqProofs only [go_sem]) (congrArg AV.bool (dec_f fun h => by rw [h.head] at ht57; cases ht57))⟩
    · obtain ⟨hh1, hh2, hh3, hh4, hh5, hh6⟩ := badHead_f ht57
      have hlen : f.blocks.length ≤ 9223372036854775807 := by omega
      refine AW.skip ?_
      show AW _ _ _ _ _
      refine AW.runs [] (by simp -implicitDefEqProofs only [go_sem, hf, ht57]; rfl) (by trivial) ?_
      refine AW.seq ?_
      refine AW.runs [] (by simp -implicitDefEqProofs only [go_sem, hf, ht57]; rfl) (by trivial) ?_
      refine AW.block ?_
      refine AW.forH (X := Unit) (f.blocks.length) (fun i _ => [(1, .int .i64 n), (2, .box g0 (untRow u)), (5, .box (g0 + 1) (fnRow f)), (6, .int .i64 (insTo f i : Nat)), (7, .int .i64 i)]) (fun i _ => ∀ b ∈ f.blocks.take i, TermOk f b.term) 253 ⟨(), by simp, ⟨by simp -implicitDefEqProofs only [go_sem], by simp -implicitDefEqProofs only [go_sem, hf, ht57, insTo, List.take_zero, List.map_nil, List.sum_nil, Int.ofNat_eq_natCast, Int.natCast_zero]⟩⟩ fun i _ g2 hii hinvi => ?_
      refine AW.seq ?_
      refine AW.runs [] (by simp -implicitDefEqProofs only [go_sem, hf, ht57]; rfl) (by trivial) ?_
      refine AW.if (by simp -implicitDefEqProofs only [go_sem, hf, ht57]; rfl) (fun ht62 => ?_) (fun ht62 => ?_)
      · have hlti : i < f.blocks.length := lt_dec ht62
        obtain ⟨b, hb⟩ := get_of_lt hlti
        have hbm := List.mem_of_getElem? hb
        have hadd : IntKind.i64.wrap (((insTo f i : Nat) : Int) + (b.ins.length : Int)) = ((insTo f (i + 1) : Nat) : Int) := by have h1 := sum_take (fun b : Block => b.ins.length) hb; have h2 := sum_le (fun b : Block => b.ins.length) f.blocks (i + 1); unfold insTo at hm ⊢; rw [List.take_of_length_le (Nat.le_refl _)] at hm; rw [wrap_add _ _ (by omega), h1]
        refine AW.skip ?_
        show AW _ _ _ _ _
        refine AW.seq ?_
        refine AW.block ?_
        refine AW.runs [] (by simp -implicitDefEqProofs only [go_sem, hf, ht57, ht62, hb]; rfl) (by trivial) ?_
        refine AW.runs [.fz ((nextOf b.term).map intRow)] (by simp -implicitDefEqProofs only [go_sem, hf, ht57, ht62, hb]; rfl) (ob1 ((fun71 b.term).obf)) ?_
        refine AW.seq ?_
        refine AW.runs [] (by simp -implicitDefEqProofs only [go_sem, hf, ht57, ht62, hb]; rfl) (by trivial) ?_
        refine AW.block ?_
        refine AW.forH (X := Unit) ((nextOf b.term).length) (fun q _ => [(1, .int .i64 n), (2, .box g0 (untRow u)), (5, .box (g0 + 1) (fnRow f)), (6, .int .i64 (insTo f i : Nat)), (7, .int .i64 i), (8, .box g2 (termRow b.term)), (9, .fz ((nextOf b.term).map intRow)), (10, .int .i64 q)]) (fun q _ => ∀ y ∈ (nextOf b.term).take q, 0 ≤ y ∧ y < (f.blocks.length : Int)) 253 ⟨(), by simp, ⟨by simp -implicitDefEqProofs only [go_sem], by simp -implicitDefEqProofs only [go_sem, hf, ht57, ht62, hb]⟩⟩ fun q _ g3 hiq hinvq => ?_
        refine AW.seq ?_
        refine AW.runs [] (by simp -implicitDefEqProofs only [go_sem, hf, ht57, ht62, hb]; rfl) (by trivial) ?_
        refine AW.if (by simp -implicitDefEqProofs only [go_sem, hf, ht57, ht62, hb]; rfl) (fun ht76 => ?_) (fun ht76 => ?_)
        · have hltq : q < (nextOf b.term).length := lt_dec ht76
          obtain ⟨y, hy⟩ := get_of_lt hltq
          refine AW.skip ?_
          show AW _ _ _ _ _
          refine AW.seq ?_
          refine AW.block ?_
          refine AW.join [(1, .int .i64 n), (2, .box g0 (untRow u)), (5, .box (g0 + 1) (fnRow f)), (6, .int .i64 (insTo f i : Nat)), (7, .int .i64 i), (8, .box g2 (termRow b.term)), (9, .fz ((nextOf b.term).map intRow)), (10, .int .i64 q), (93, .bool (badTo f y))] 253 ?_ (fun g4 => ?_)
          · cases c1 : decide (y < 0)
            · refine AW.has (n := 253) [(1, .int .i64 n), (2, .box g0 (untRow u)), (5, .box (g0 + 1) (fnRow f)), (6, .int .i64 (insTo f i : Nat)), (7, .int .i64 i), (8, .box g2 (termRow b.term)), (9, .fz ((nextOf b.term).map intRow)), (10, .int .i64 q)] (⟨by simp -implicitDefEqProofs only [go_sem], by simp -implicitDefEqProofs only [go_sem, hf, ht57, ht62, hb, ht76, hy, c1]⟩) (fun g5 => ?_)
              refine AW.drw 13 [[], [], [0, 1], [0, 1, 2], [0, 1, 2, 3], [0, 1, 2, 3, 4], [0, 1, 2, 3, 4, 5], [0, 1, 2, 3, 4, 5], [0, 1, 2, 3, 4, 5, 6, 7], [0, 1, 2, 3, 4, 5, 6, 7, 8], [0, 1, 2, 3, 4, 5], [0, 1, 2, 3, 4, 5, 10], [0, 1, 2, 3, 4, 5, 10, 11], [0, 1, 2, 3, 4, 5, 6, 7, 8, 9, 10, 11, 12], [0, 1, 2, 3, 4, 5, 6, 7, 8, 9, 10, 11, 12, 13]] [79, 80, 81, 82, 83, 84, 85, 86, 87, 88, 89, 90, 91] [] [] f_mix (by decide) (by rfl) (by rfl) rfl rfl (by simp -implicitDefEqProofs only [go_sem, hf, ht57, ht62, hb, ht76, hy, c1]; rfl) (by trivial) (by simp -implicitDefEqProofs only [go_sem, hf, ht57, ht62, hb, ht76, hy, c1]; rfl) (by trivial) ?_
              exact ⟨by simp -implicitDefEqProofs only [go_sem], by simp -implicitDefEqProofs only [go_sem, hf, ht57, ht62, hb, ht76, hy, c1, badTo]⟩
            · refine AW.has (n := 253) [(1, .int .i64 n), (2, .box g0 (untRow u)), (5, .box (g0 + 1) (fnRow f)), (6, .int .i64 (insTo f i : Nat)), (7, .int .i64 i), (8, .box g2 (termRow b.term)), (9, .fz ((nextOf b.term).map intRow)), (10, .int .i64 q)] (⟨by simp -implicitDefEqProofs only [go_sem], by simp -implicitDefEqProofs only [go_sem, hf, ht57, ht62, hb, ht76, hy, c1]⟩) (fun g6 => ?_)
              refine AW.drw 13 [[], [], [0, 1], [0, 1, 2], [0, 1, 2, 3], [0, 1, 2, 3, 4], [0, 1, 2, 3, 4, 5], [0, 1, 2, 3, 4, 5], [0, 1, 2, 3, 4, 5, 6, 7], [0, 1, 2, 3, 4, 5, 6, 7, 8], [0, 1, 2, 3, 4, 5], [0, 1, 2, 3, 4, 5, 10], [0, 1, 2, 3, 4, 5, 10, 11], [0, 1, 2, 3, 4, 5, 6, 7, 8, 9, 10, 11, 12], [0, 1, 2, 3, 4, 5, 6, 7, 8, 9, 10, 11, 12, 13]] [79, 80, 81, 82, 83, 84, 85, 86, 87, 88, 89, 90, 91] [] [] f_mix (by decide) (by rfl) (by rfl) rfl rfl (by simp -implicitDefEqProofs only [go_sem, hf, ht57, ht62, hb, ht76, hy, c1]; rfl) (by trivial) (by simp -implicitDefEqProofs only [go_sem, hf, ht57, ht62, hb, ht76, hy, c1]; rfl) (by trivial) ?_
              exact ⟨by simp -implicitDefEqProofs only [go_sem], by simp -implicitDefEqProofs only [go_sem, hf, ht57, ht62, hb, ht76, hy, c1, badTo]⟩
          · refine AW.if (by simp -implicitDefEqProofs only [go_sem, hf, ht57, ht62, hb, ht76, hy]; rfl) (fun ht93 => ?_) (fun ht93 => ?_)
            · refine AW.runs [] (by simp -implicitDefEqProofs only [go_sem, hf, ht57, ht62, hb, ht76, hy, ht93]; rfl) (by trivial) ?_
              exact AW.ret ⟨.inl rfl, _, rfl, Eq.trans (b := .bool false) (by simp -implicitDefEqProofs only [go_sem]) (congrArg AV.bool (dec_f fun h => by have := (h.terms b hbm).next y (List.mem_of_getElem? hy); unfold badTo at ht93; cases h0 : decide (y < 0) <;> simp only [h0, if_tt, if_ff] at ht93 <;> simp at h0 ht93 <;> omega))⟩
            · have hyo := badTo_f ht93
              refine AW.skip ?_
              show AW _ _ _ _ _
              refine AW.run [] (by simp -implicitDefEqProofs only [go_sem, hf, ht57, ht62, hb, ht76, hy, ht93]; rfl) (by trivial) ?_
              exact ⟨hltq, (), take_all hinvq hy hyo, ⟨by simp -implicitDefEqProofs only [go_sem], by simp -implicitDefEqProofs only [go_sem, hf, ht57, ht62, hb, ht76, hy, ht93, step_int q (Nat.lt_of_lt_of_le hltq (by have := next_len b.term; omega))]⟩⟩
        · have hnx : ∀ y ∈ nextOf b.term, 0 ≤ y ∧ y < (f.blocks.length : Int) := take_end hinvq (ge_dec ht76)
          refine AW.exit ?_
          show AW _ _ _ _ _
          refine AW.join [(1, .int .i64 n), (2, .box g0 (untRow u)), (5, .box (g0 + 1) (fnRow f)), (6, .int .i64 (insTo f i : Nat)), (7, .int .i64 i), (8, .box g2 (termRow b.term)), (11, .bool (retOk f b.term))] 253 ?_ (fun g7 => ?_)
          · cases c1 : (b.term.kind == 3)
            · refine AW.run [] (by simp -implicitDefEqProofs only [go_sem, hf, ht57, ht62, hb, ht76, c1]; rfl) (by trivial) ?_
              exact ⟨by simp -implicitDefEqProofs only [go_sem], by simp -implicitDefEqProofs only [go_sem, hf, ht57, ht62, hb, ht76, c1, retOk]⟩
            · cases c2 : decide (b.term.a ≥ -1)
              · refine AW.run [] (by simp -implicitDefEqProofs only [go_sem, hf, ht57, ht62, hb, ht76, c1, c2]; rfl) (by trivial) ?_
                exact ⟨by simp -implicitDefEqProofs only [go_sem], by simp -implicitDefEqProofs only [go_sem, hf, ht57, ht62, hb, ht76, c1, c2, retOk]⟩
              · refine AW.run [] (by simp -implicitDefEqProofs only [go_sem, hf, ht57, ht62, hb, ht76, c1, c2]; rfl) (by trivial) ?_
                exact ⟨by simp -implicitDefEqProofs only [go_sem], by simp -implicitDefEqProofs only [go_sem, hf, ht57, ht62, hb, ht76, c1, c2, retOk]⟩
          · refine AW.seq ?_
            refine AW.join [(1, .int .i64 n), (2, .box g0 (untRow u)), (5, .box (g0 + 1) (fnRow f)), (6, .int .i64 (insTo f i : Nat)), (7, .int .i64 i), (132, .bool (badTerm f b.term))] 253 ?_ (fun g8 => ?_)
            · cases c1 : (b.term.kind != 1)
              · refine AW.run [] (by simp -implicitDefEqProofs only [go_sem, hf, ht57, ht62, hb, ht76, c1]; rfl) (by trivial) ?_
                exact ⟨by simp -implicitDefEqProofs only [go_sem], by simp -implicitDefEqProofs only [go_sem, hf, ht57, ht62, hb, ht76, c1, badTerm]⟩
              · cases c2 : retOk f b.term
                · cases c3 : (b.term.kind != 2)
                  · cases c4 : decide (b.term.a < 0)
                    · refine AW.run [] (by simp -implicitDefEqProofs only [go_sem, hf, ht57, ht62, hb, ht76, c1, c2, c3, c4]; rfl) (by trivial) ?_
                      exact ⟨by simp -implicitDefEqProofs only [go_sem], by simp -implicitDefEqProofs only [go_sem, hf, ht57, ht62, hb, ht76, c1, c2, c3, c4, badTerm]⟩
                    · refine AW.run [] (by simp -implicitDefEqProofs only [go_sem, hf, ht57, ht62, hb, ht76, c1, c2, c3, c4]; rfl) (by trivial) ?_
                      exact ⟨by simp -implicitDefEqProofs only [go_sem], by simp -implicitDefEqProofs only [go_sem, hf, ht57, ht62, hb, ht76, c1, c2, c3, c4, badTerm]⟩
                  · refine AW.run [] (by simp -implicitDefEqProofs only [go_sem, hf, ht57, ht62, hb, ht76, c1, c2, c3]; rfl) (by trivial) ?_
                    exact ⟨by simp -implicitDefEqProofs only [go_sem], by simp -implicitDefEqProofs only [go_sem, hf, ht57, ht62, hb, ht76, c1, c2, c3, badTerm]⟩
                · refine AW.run [] (by simp -implicitDefEqProofs only [go_sem, hf, ht57, ht62, hb, ht76, c1, c2]; rfl) (by trivial) ?_
                  exact ⟨by simp -implicitDefEqProofs only [go_sem], by simp -implicitDefEqProofs only [go_sem, hf, ht57, ht62, hb, ht76, c1, c2, badTerm]⟩
            · refine AW.if (by simp -implicitDefEqProofs only [go_sem, hf, ht57, ht62, hb, ht76]; rfl) (fun ht132 => ?_) (fun ht132 => ?_)
              · refine AW.runs [] (by simp -implicitDefEqProofs only [go_sem, hf, ht57, ht62, hb, ht76, ht132]; rfl) (by trivial) ?_
                exact AW.ret ⟨.inl rfl, _, rfl, Eq.trans (b := .bool false) (by simp -implicitDefEqProofs only [go_sem]) (congrArg AV.bool (dec_f fun h => by rw [(h.terms b hbm).bad] at ht132; cases ht132))⟩
              · refine AW.skip ?_
                show AW _ _ _ _ _
                refine AW.run [] (by simp -implicitDefEqProofs only [go_sem, hf, ht57, ht62, hb, ht76, ht132]; rfl) (by trivial) ?_
                show AW _ _ _ _ _
                refine AW.run [] (by simp -implicitDefEqProofs only [go_sem, hf, ht57, ht62, hb, ht76, ht132]; rfl) (by trivial) ?_
                exact ⟨hlti, (), take_all hinvi hb ⟨hnx, ht132⟩, ⟨by simp -implicitDefEqProofs only [go_sem], by simp -implicitDefEqProofs only [go_sem, hf, ht57, ht62, hb, ht76, ht132, step_int i (Nat.lt_of_lt_of_le hlti (hlen)), hadd]⟩⟩
      · have htm : ∀ b ∈ f.blocks, TermOk f b.term := take_end hinvi (ge_dec ht62)
        have htg := targets_of htm
        have hie : i = f.blocks.length := by have := ge_dec ht62; omega
        have hts : (termsOf f).length = f.blocks.length := by simp [termsOf]
        refine AW.exit ?_
        show AW _ _ _ _ _
        refine AW.seq ?_
        refine AW.runs [] (by simp -implicitDefEqProofs only [go_sem, hf, ht57, ht62]; rfl) (by trivial) ?_
        refine AW.if (by simp -implicitDefEqProofs only [go_sem, hf, ht57, ht62]; rfl) (fun ht143 => ?_) (fun ht143 => ?_)
        · refine AW.runs [] (by simp -implicitDefEqProofs only [go_sem, hf, ht57, ht62, ht143]; rfl) (by trivial) ?_
          exact AW.ret ⟨.inl rfl, _, rfl, Eq.trans (b := .bool false) (by simp -implicitDefEqProofs only [go_sem]) (congrArg AV.bool (dec_f fun h => by have := h.many; have h2 := of_decide_eq_true ht143; rw [hie] at h2; omega))⟩
        · have hmn : insTo f f.blocks.length ≤ 524288 := by have := of_decide_eq_false ht143; rw [hie] at this; omega
          refine AW.skip ?_
          show AW _ _ _ _ _
          refine AW.runs [.fz ((waysOf (termsOf f)).map intsRow)] (by simp -implicitDefEqProofs only [go_sem, hf, ht57, ht62, ht143]; rfl) (ob1 ((fun42 f (by omega) htg).obf)) ?_
          refine AW.seq ?_
          refine AW.runs [] (by simp -implicitDefEqProofs only [go_sem, hf, ht57, ht62, ht143]; rfl) (by trivial) ?_
          refine AW.block ?_
          refine AW.forH (X := Unit) (f.blocks.length) (fun i _ => [(1, .int .i64 n), (2, .box g0 (untRow u)), (5, .box (g0 + 1) (fnRow f)), (12, .fz ((waysOf (termsOf f)).map intsRow)), (13, .int .i64 i)]) (fun i _ => ∀ j b, j < i → f.blocks[j]? = some b → BlockOk u n f j b) 253 ⟨(), fun j b h => by omega, ⟨by simp -implicitDefEqProofs only [go_sem], by simp -implicitDefEqProofs only [go_sem, hf, ht57, ht62, ht143]⟩⟩ fun i _ g9 hii hinvi => ?_
          refine AW.seq ?_
          refine AW.runs [] (by simp -implicitDefEqProofs only [go_sem, hf, ht57, ht62, ht143]; rfl) (by trivial) ?_
          refine AW.if (by simp -implicitDefEqProofs only [go_sem, hf, ht57, ht62, ht143]; rfl) (fun ht150 => ?_) (fun ht150 => ?_)
          · have hlti : i < f.blocks.length := lt_dec ht150
            obtain ⟨b, hb⟩ := get_of_lt hlti
            have hbm := List.mem_of_getElem? hb
            obtain ⟨w, hw⟩ := get_of_lt (show i < (waysOf (termsOf f)).length by rw [waysOf_len, hts]; exact hlti)
            have hil : b.ins.length ≤ 9223372036854775807 := by have h1 := sum_at (fun b : Block => b.ins.length) hb; unfold insTo at hm; rw [List.take_of_length_le (Nat.le_refl _)] at hm; omega
            refine AW.skip ?_
            show AW _ _ _ _ _
            refine AW.seq ?_
            refine AW.block ?_
            refine AW.runs [] (by simp -implicitDefEqProofs only [go_sem, hf, ht57, ht62, ht143, ht150, hb, hw]; rfl) (by trivial) ?_
            refine AW.runs [] (by simp -implicitDefEqProofs only [go_sem, hf, ht57, ht62, ht143, ht150, hb, hw]; rfl) (by trivial) ?_
            refine AW.block ?_
            refine AW.forH (X := Bool) (b.ins.length) (fun k hd => [(1, .int .i64 n), (2, .box g0 (untRow u)), (5, .box (g0 + 1) (fnRow f)), (12, .fz ((waysOf (termsOf f)).map intsRow)), (13, .int .i64 i), (14, .bool hd), (15, .int .i64 k)]) (fun k hd => hd = phis (b.ins.take k) ∧ ∀ k2 x2, k2 < k → b.ins[k2]? = some x2 → InsOk u n f i (phis (b.ins.take (k2 + 1))) x2) 253 ⟨true, ⟨rfl, fun k x h => by omega⟩, ⟨by simp -implicitDefEqProofs only [go_sem], by simp -implicitDefEqProofs only [go_sem, hf, ht57, ht62, ht143, ht150, hb, hw]⟩⟩ fun k hd g10 hik hinvk => ?_
            obtain ⟨hd0, hhd0⟩ : ∃ z, z = hd := ⟨_, rfl⟩
            subst hhd0
            refine AW.seq ?_
            refine AW.runs [] (by simp -implicitDefEqProofs only [go_sem, hf, ht57, ht62, ht143, ht150, hb, hw]; rfl) (by trivial) ?_
            refine AW.if (by simp -implicitDefEqProofs only [go_sem, hf, ht57, ht62, ht143, ht150, hb, hw]; rfl) (fun ht161 => ?_) (fun ht161 => ?_)
            · have hltk : k < b.ins.length := lt_dec ht161
              obtain ⟨x, hx⟩ := get_of_lt hltk
              have hxa : x.args.length ≤ 1048576 := ha b hbm x (List.mem_of_getElem? hx)
              have hul := usesOf_len x hxa
              have hph := phis_take hx
              refine AW.skip ?_
              show AW _ _ _ _ _
              refine AW.seq ?_
              refine AW.block ?_
              refine AW.runs [] (by simp -implicitDefEqProofs only [go_sem, hf, ht57, ht62, ht143, ht150, hb, hw, ht161, hx]; rfl) (by trivial) ?_
              refine AW.join [(1, .int .i64 n), (2, .box g0 (untRow u)), (5, .box (g0 + 1) (fnRow f)), (12, .fz ((waysOf (termsOf f)).map intsRow)), (13, .int .i64 i), (14, .bool (hd0 && (x.op == 47))), (15, .int .i64 k), (16, .box g10 (insRow x))] 253 ?_ (fun g11 => ?_)
              · cases c1 : hd0
                · refine AW.run [] (by simp -implicitDefEqProofs only [go_sem, hf, ht57, ht62, ht143, ht150, hb, hw, ht161, hx, c1]; rfl) (by trivial) ?_
                  exact ⟨by simp -implicitDefEqProofs only [go_sem], by simp -implicitDefEqProofs only [go_sem, hf, ht57, ht62, ht143, ht150, hb, hw, ht161, hx, c1]⟩
                · refine AW.run [] (by simp -implicitDefEqProofs only [go_sem, hf, ht57, ht62, ht143, ht150, hb, hw, ht161, hx, c1]; rfl) (by trivial) ?_
                  exact ⟨by simp -implicitDefEqProofs only [go_sem], by simp -implicitDefEqProofs only [go_sem, hf, ht57, ht62, ht143, ht150, hb, hw, ht161, hx, c1]⟩
              · obtain ⟨hd, hhde⟩ : ∃ z, z = (hd0 && (x.op == 47)) := ⟨_, rfl⟩
                rw [← hhde]
                have hhd : hd = phis (b.ins.take (k + 1)) := by rw [hph, hhde, hinvk.1]
                refine AW.seq ?_
                refine AW.join [(1, .int .i64 n), (2, .box g0 (untRow u)), (5, .box (g0 + 1) (fnRow f)), (12, .fz ((waysOf (termsOf f)).map intsRow)), (13, .int .i64 i), (14, .bool hd), (15, .int .i64 k), (16, .box g10 (insRow x)), (207, .bool (badKnown u n f i hd x))] 253 ?_ (fun g12 => ?_)
                · cases c1 : knownOf u n f x
                  · refine AW.has (n := 253) [(1, .int .i64 n), (2, .box g0 (untRow u)), (5, .box (g0 + 1) (fnRow f)), (12, .fz ((waysOf (termsOf f)).map intsRow)), (13, .int .i64 i), (14, .bool hd), (15, .int .i64 k), (16, .box g10 (insRow x))] (⟨by simp -implicitDefEqProofs only [go_sem], by simp -implicitDefEqProofs only [go_sem, hf, ht57, ht62, ht143, ht150, hb, hw, ht161, hx, c1]⟩) (fun g13 => ?_)
                    refine AW.drw 25 [[], [], [], [0, 1, 2], [0, 1, 2, 3], [0, 1, 2, 3, 4], [0, 1, 2, 3, 4, 5], [0, 1, 2, 3, 4, 5, 6], [0, 1, 2, 3, 4, 5, 6, 7], [0, 1, 2, 3, 4, 5, 6, 7, 8], [0, 1, 2, 3, 4, 5, 6, 7, 8, 9], [0, 1, 2, 3, 4, 5, 6, 7, 8, 9, 10], [0, 1, 2, 3, 4, 5, 6, 7, 8, 9, 10, 11], [0, 1, 2, 3, 4, 5, 6, 7, 8, 9, 10, 11, 12], [0, 1, 2, 3, 4, 5, 6, 7, 8, 9, 10, 11, 12, 13], [0, 1, 2, 3, 4, 5, 6, 7, 8, 9, 10, 11, 12, 13, 14], [0, 1, 2, 3, 4, 5, 6, 7, 8, 9, 10, 11, 12, 13, 14, 15], [0, 1, 2, 3, 4, 5, 6, 7, 8, 9, 10, 11, 12, 13, 14, 15, 16], [0, 1, 2, 3, 4, 5, 6, 7, 8, 9, 10, 11, 12, 13, 14, 15, 16, 17], [0, 1, 2, 3, 4, 5, 6, 7, 8, 9, 10, 11, 12, 13, 14, 15, 16, 17, 18], [0, 1, 2, 3, 4, 5, 6, 7, 8, 9, 10, 11, 12, 13, 14, 15, 16], [0, 1, 2, 3, 4, 5, 6, 7, 8, 9, 10, 11, 12, 13, 14, 15, 16], [0, 1, 2, 3, 4, 5, 6, 7, 8, 9, 10, 11, 12, 13, 14, 15, 16, 20, 21], [0, 1, 2, 3, 4, 5, 6, 7, 8, 9, 10, 11, 12, 13, 14, 15, 16, 20, 21, 22], [0, 1, 2, 3, 4, 5, 6, 7, 8, 9, 10, 11, 12, 13, 14, 15, 16, 20, 21, 22, 23], [0, 1, 2, 3, 4, 5, 6, 7, 8, 9, 10, 11, 12, 13, 14, 15, 16, 17, 18, 19, 20, 21, 22, 23, 24], [0, 1, 2, 3, 4, 5, 6, 7, 8, 9, 10, 11, 12, 13, 14, 15, 16, 17, 18, 19, 20, 21, 22, 23, 24, 25], [0, 1, 2, 3, 4, 5, 6, 7, 8, 9, 10, 11, 12, 13, 14, 15, 16, 17, 18, 19, 20, 21, 22, 23, 24, 25, 26], [0, 1, 2, 3, 4, 5, 6, 7, 8, 9, 10, 11, 12, 13, 14, 15, 16, 17, 18, 19, 20, 21, 22, 23, 24, 25, 26, 27]] [179, 180, 181, 182, 183, 184, 185, 186, 187, 188, 189, 190, 191, 192, 193, 194, 195, 196, 197, 198, 199, 200, 201, 202, 203] [.bool (knownOf u n f x)] [] f_mix (by decide) (by rfl) (by rfl) rfl rfl (by simp -implicitDefEqProofs only [go_sem, hf, ht57, ht62, ht143, ht150, hb, hw, ht161, hx, c1]; rfl) (ob1 (by have h := (fun83 u n f x hf).obb; (try simp only [hf, ht57, ht62, ht143, ht150, hb, hw, ht161, hx, c1] at h); exact h)) (by simp -implicitDefEqProofs only [go_sem, hf, ht57, ht62, ht143, ht150, hb, hw, ht161, hx, c1]; rfl) (by trivial) ?_
                    exact ⟨by simp -implicitDefEqProofs only [go_sem], by simp -implicitDefEqProofs only [go_sem, hf, ht57, ht62, ht143, ht150, hb, hw, ht161, hx, c1, badKnown]⟩
                  · cases c2 : (x.op == 47)
                    · refine AW.has (n := 253) [(1, .int .i64 n), (2, .box g0 (untRow u)), (5, .box (g0 + 1) (fnRow f)), (12, .fz ((waysOf (termsOf f)).map intsRow)), (13, .int .i64 i), (14, .bool hd), (15, .int .i64 k), (16, .box g10 (insRow x))] (⟨by simp -implicitDefEqProofs only [go_sem], by simp -implicitDefEqProofs only [go_sem, hf, ht57, ht62, ht143, ht150, hb, hw, ht161, hx, c1, c2]⟩) (fun g14 => ?_)
                      refine AW.drw 25 [[], [], [], [0, 1, 2], [0, 1, 2, 3], [0, 1, 2, 3, 4], [0, 1, 2, 3, 4, 5], [0, 1, 2, 3, 4, 5, 6], [0, 1, 2, 3, 4, 5, 6, 7], [0, 1, 2, 3, 4, 5, 6, 7, 8], [0, 1, 2, 3, 4, 5, 6, 7, 8, 9], [0, 1, 2, 3, 4, 5, 6, 7, 8, 9, 10], [0, 1, 2, 3, 4, 5, 6, 7, 8, 9, 10, 11], [0, 1, 2, 3, 4, 5, 6, 7, 8, 9, 10, 11, 12], [0, 1, 2, 3, 4, 5, 6, 7, 8, 9, 10, 11, 12, 13], [0, 1, 2, 3, 4, 5, 6, 7, 8, 9, 10, 11, 12, 13, 14], [0, 1, 2, 3, 4, 5, 6, 7, 8, 9, 10, 11, 12, 13, 14, 15], [0, 1, 2, 3, 4, 5, 6, 7, 8, 9, 10, 11, 12, 13, 14, 15, 16], [0, 1, 2, 3, 4, 5, 6, 7, 8, 9, 10, 11, 12, 13, 14, 15, 16, 17], [0, 1, 2, 3, 4, 5, 6, 7, 8, 9, 10, 11, 12, 13, 14, 15, 16, 17, 18], [0, 1, 2, 3, 4, 5, 6, 7, 8, 9, 10, 11, 12, 13, 14, 15, 16], [0, 1, 2, 3, 4, 5, 6, 7, 8, 9, 10, 11, 12, 13, 14, 15, 16], [0, 1, 2, 3, 4, 5, 6, 7, 8, 9, 10, 11, 12, 13, 14, 15, 16, 20, 21], [0, 1, 2, 3, 4, 5, 6, 7, 8, 9, 10, 11, 12, 13, 14, 15, 16, 20, 21, 22], [0, 1, 2, 3, 4, 5, 6, 7, 8, 9, 10, 11, 12, 13, 14, 15, 16, 20, 21, 22, 23], [0, 1, 2, 3, 4, 5, 6, 7, 8, 9, 10, 11, 12, 13, 14, 15, 16, 17, 18, 19, 20, 21, 22, 23, 24], [0, 1, 2, 3, 4, 5, 6, 7, 8, 9, 10, 11, 12, 13, 14, 15, 16, 17, 18, 19, 20, 21, 22, 23, 24, 25], [0, 1, 2, 3, 4, 5, 6, 7, 8, 9, 10, 11, 12, 13, 14, 15, 16, 17, 18, 19, 20, 21, 22, 23, 24, 25, 26], [0, 1, 2, 3, 4, 5, 6, 7, 8, 9, 10, 11, 12, 13, 14, 15, 16, 17, 18, 19, 20, 21, 22, 23, 24, 25, 26, 27]] [179, 180, 181, 182, 183, 184, 185, 186, 187, 188, 189, 190, 191, 192, 193, 194, 195, 196, 197, 198, 199, 200, 201, 202, 203] [.bool (knownOf u n f x)] [] f_mix (by decide) (by rfl) (by rfl) rfl rfl (by simp -implicitDefEqProofs only [go_sem, hf, ht57, ht62, ht143, ht150, hb, hw, ht161, hx, c1, c2]; rfl) (ob1 (by have h := (fun83 u n f x hf).obb; (try simp only [hf, ht57, ht62, ht143, ht150, hb, hw, ht161, hx, c1, c2] at h); exact h)) (by simp -implicitDefEqProofs only [go_sem, hf, ht57, ht62, ht143, ht150, hb, hw, ht161, hx, c1, c2]; rfl) (by trivial) ?_
                      exact ⟨by simp -implicitDefEqProofs only [go_sem], by simp -implicitDefEqProofs only [go_sem, hf, ht57, ht62, ht143, ht150, hb, hw, ht161, hx, c1, c2, badKnown]⟩
                    · cases c3 : hd
                      · refine AW.has (n := 253) [(1, .int .i64 n), (2, .box g0 (untRow u)), (5, .box (g0 + 1) (fnRow f)), (12, .fz ((waysOf (termsOf f)).map intsRow)), (13, .int .i64 i), (14, .bool hd), (15, .int .i64 k), (16, .box g10 (insRow x))] (⟨by simp -implicitDefEqProofs only [go_sem], by simp -implicitDefEqProofs only [go_sem, hf, ht57, ht62, ht143, ht150, hb, hw, ht161, hx, c1, c2, c3]⟩) (fun g15 => ?_)
                        refine AW.drw 25 [[], [], [], [0, 1, 2], [0, 1, 2, 3], [0, 1, 2, 3, 4], [0, 1, 2, 3, 4, 5], [0, 1, 2, 3, 4, 5, 6], [0, 1, 2, 3, 4, 5, 6, 7], [0, 1, 2, 3, 4, 5, 6, 7, 8], [0, 1, 2, 3, 4, 5, 6, 7, 8, 9], [0, 1, 2, 3, 4, 5, 6, 7, 8, 9, 10], [0, 1, 2, 3, 4, 5, 6, 7, 8, 9, 10, 11], [0, 1, 2, 3, 4, 5, 6, 7, 8, 9, 10, 11, 12], [0, 1, 2, 3, 4, 5, 6, 7, 8, 9, 10, 11, 12, 13], [0, 1, 2, 3, 4, 5, 6, 7, 8, 9, 10, 11, 12, 13, 14], [0, 1, 2, 3, 4, 5, 6, 7, 8, 9, 10, 11, 12, 13, 14, 15], [0, 1, 2, 3, 4, 5, 6, 7, 8, 9, 10, 11, 12, 13, 14, 15, 16], [0, 1, 2, 3, 4, 5, 6, 7, 8, 9, 10, 11, 12, 13, 14, 15, 16, 17], [0, 1, 2, 3, 4, 5, 6, 7, 8, 9, 10, 11, 12, 13, 14, 15, 16, 17, 18], [0, 1, 2, 3, 4, 5, 6, 7, 8, 9, 10, 11, 12, 13, 14, 15, 16], [0, 1, 2, 3, 4, 5, 6, 7, 8, 9, 10, 11, 12, 13, 14, 15, 16], [0, 1, 2, 3, 4, 5, 6, 7, 8, 9, 10, 11, 12, 13, 14, 15, 16, 20, 21], [0, 1, 2, 3, 4, 5, 6, 7, 8, 9, 10, 11, 12, 13, 14, 15, 16, 20, 21, 22], [0, 1, 2, 3, 4, 5, 6, 7, 8, 9, 10, 11, 12, 13, 14, 15, 16, 20, 21, 22, 23], [0, 1, 2, 3, 4, 5, 6, 7, 8, 9, 10, 11, 12, 13, 14, 15, 16, 17, 18, 19, 20, 21, 22, 23, 24], [0, 1, 2, 3, 4, 5, 6, 7, 8, 9, 10, 11, 12, 13, 14, 15, 16, 17, 18, 19, 20, 21, 22, 23, 24, 25], [0, 1, 2, 3, 4, 5, 6, 7, 8, 9, 10, 11, 12, 13, 14, 15, 16, 17, 18, 19, 20, 21, 22, 23, 24, 25, 26], [0, 1, 2, 3, 4, 5, 6, 7, 8, 9, 10, 11, 12, 13, 14, 15, 16, 17, 18, 19, 20, 21, 22, 23, 24, 25, 26, 27]] [179, 180, 181, 182, 183, 184, 185, 186, 187, 188, 189, 190, 191, 192, 193, 194, 195, 196, 197, 198, 199, 200, 201, 202, 203] [.bool (knownOf u n f x)] [] f_mix (by decide) (by rfl) (by rfl) rfl rfl (by simp -implicitDefEqProofs only [go_sem, hf, ht57, ht62, ht143, ht150, hb, hw, ht161, hx, c1, c2, c3]; rfl) (ob1 (by have h := (fun83 u n f x hf).obb; (try simp only [hf, ht57, ht62, ht143, ht150, hb, hw, ht161, hx, c1, c2, c3] at h); exact h)) (by simp -implicitDefEqProofs only [go_sem, hf, ht57, ht62, ht143, ht150, hb, hw, ht161, hx, c1, c2, c3]; rfl) (by trivial) ?_
                        exact ⟨by simp -implicitDefEqProofs only [go_sem], by simp -implicitDefEqProofs only [go_sem, hf, ht57, ht62, ht143, ht150, hb, hw, ht161, hx, c1, c2, c3, badKnown]⟩
                      · cases c4 : ((i : Int) == 0)
                        · refine AW.has (n := 253) [(1, .int .i64 n), (2, .box g0 (untRow u)), (5, .box (g0 + 1) (fnRow f)), (12, .fz ((waysOf (termsOf f)).map intsRow)), (13, .int .i64 i), (14, .bool hd), (15, .int .i64 k), (16, .box g10 (insRow x))] (⟨by simp -implicitDefEqProofs only [go_sem], by simp -implicitDefEqProofs only [go_sem, hf, ht57, ht62, ht143, ht150, hb, hw, ht161, hx, c1, c2, c3, c4]⟩) (fun g16 => ?_)
                          refine AW.drw 25 [[], [], [], [0, 1, 2], [0, 1, 2, 3], [0, 1, 2, 3, 4], [0, 1, 2, 3, 4, 5], [0, 1, 2, 3, 4, 5, 6], [0, 1, 2, 3, 4, 5, 6, 7], [0, 1, 2, 3, 4, 5, 6, 7, 8], [0, 1, 2, 3, 4, 5, 6, 7, 8, 9], [0, 1, 2, 3, 4, 5, 6, 7, 8, 9, 10], [0, 1, 2, 3, 4, 5, 6, 7, 8, 9, 10, 11], [0, 1, 2, 3, 4, 5, 6, 7, 8, 9, 10, 11, 12], [0, 1, 2, 3, 4, 5, 6, 7, 8, 9, 10, 11, 12, 13], [0, 1, 2, 3, 4, 5, 6, 7, 8, 9, 10, 11, 12, 13, 14], [0, 1, 2, 3, 4, 5, 6, 7, 8, 9, 10, 11, 12, 13, 14, 15], [0, 1, 2, 3, 4, 5, 6, 7, 8, 9, 10, 11, 12, 13, 14, 15, 16], [0, 1, 2, 3, 4, 5, 6, 7, 8, 9, 10, 11, 12, 13, 14, 15, 16, 17], [0, 1, 2, 3, 4, 5, 6, 7, 8, 9, 10, 11, 12, 13, 14, 15, 16, 17, 18], [0, 1, 2, 3, 4, 5, 6, 7, 8, 9, 10, 11, 12, 13, 14, 15, 16], [0, 1, 2, 3, 4, 5, 6, 7, 8, 9, 10, 11, 12, 13, 14, 15, 16], [0, 1, 2, 3, 4, 5, 6, 7, 8, 9, 10, 11, 12, 13, 14, 15, 16, 20, 21], [0, 1, 2, 3, 4, 5, 6, 7, 8, 9, 10, 11, 12, 13, 14, 15, 16, 20, 21, 22], [0, 1, 2, 3, 4, 5, 6, 7, 8, 9, 10, 11, 12, 13, 14, 15, 16, 20, 21, 22, 23], [0, 1, 2, 3, 4, 5, 6, 7, 8, 9, 10, 11, 12, 13, 14, 15, 16, 17, 18, 19, 20, 21, 22, 23, 24], [0, 1, 2, 3, 4, 5, 6, 7, 8, 9, 10, 11, 12, 13, 14, 15, 16, 17, 18, 19, 20, 21, 22, 23, 24, 25], [0, 1, 2, 3, 4, 5, 6, 7, 8, 9, 10, 11, 12, 13, 14, 15, 16, 17, 18, 19, 20, 21, 22, 23, 24, 25, 26], [0, 1, 2, 3, 4, 5, 6, 7, 8, 9, 10, 11, 12, 13, 14, 15, 16, 17, 18, 19, 20, 21, 22, 23, 24, 25, 26, 27]] [179, 180, 181, 182, 183, 184, 185, 186, 187, 188, 189, 190, 191, 192, 193, 194, 195, 196, 197, 198, 199, 200, 201, 202, 203] [.bool (knownOf u n f x)] [] f_mix (by decide) (by rfl) (by rfl) rfl rfl (by simp -implicitDefEqProofs only [go_sem, hf, ht57, ht62, ht143, ht150, hb, hw, ht161, hx, c1, c2, c3, c4]; rfl) (ob1 (by have h := (fun83 u n f x hf).obb; (try simp only [hf, ht57, ht62, ht143, ht150, hb, hw, ht161, hx, c1, c2, c3, c4] at h); exact h)) (by simp -implicitDefEqProofs only [go_sem, hf, ht57, ht62, ht143, ht150, hb, hw, ht161, hx, c1, c2, c3, c4]; rfl) (by trivial) ?_
                          exact ⟨by simp -implicitDefEqProofs only [go_sem], by simp -implicitDefEqProofs only [go_sem, hf, ht57, ht62, ht143, ht150, hb, hw, ht161, hx, c1, c2, c3, c4, badKnown]⟩
                        · refine AW.has (n := 253) [(1, .int .i64 n), (2, .box g0 (untRow u)), (5, .box (g0 + 1) (fnRow f)), (12, .fz ((waysOf (termsOf f)).map intsRow)), (13, .int .i64 i), (14, .bool hd), (15, .int .i64 k), (16, .box g10 (insRow x))] (⟨by simp -implicitDefEqProofs only [go_sem], by simp -implicitDefEqProofs only [go_sem, hf, ht57, ht62, ht143, ht150, hb, hw, ht161, hx, c1, c2, c3, c4]⟩) (fun g17 => ?_)
                          refine AW.drw 25 [[], [], [], [0, 1, 2], [0, 1, 2, 3], [0, 1, 2, 3, 4], [0, 1, 2, 3, 4, 5], [0, 1, 2, 3, 4, 5, 6], [0, 1, 2, 3, 4, 5, 6, 7], [0, 1, 2, 3, 4, 5, 6, 7, 8], [0, 1, 2, 3, 4, 5, 6, 7, 8, 9], [0, 1, 2, 3, 4, 5, 6, 7, 8, 9, 10], [0, 1, 2, 3, 4, 5, 6, 7, 8, 9, 10, 11], [0, 1, 2, 3, 4, 5, 6, 7, 8, 9, 10, 11, 12], [0, 1, 2, 3, 4, 5, 6, 7, 8, 9, 10, 11, 12, 13], [0, 1, 2, 3, 4, 5, 6, 7, 8, 9, 10, 11, 12, 13, 14], [0, 1, 2, 3, 4, 5, 6, 7, 8, 9, 10, 11, 12, 13, 14, 15], [0, 1, 2, 3, 4, 5, 6, 7, 8, 9, 10, 11, 12, 13, 14, 15, 16], [0, 1, 2, 3, 4, 5, 6, 7, 8, 9, 10, 11, 12, 13, 14, 15, 16, 17], [0, 1, 2, 3, 4, 5, 6, 7, 8, 9, 10, 11, 12, 13, 14, 15, 16, 17, 18], [0, 1, 2, 3, 4, 5, 6, 7, 8, 9, 10, 11, 12, 13, 14, 15, 16], [0, 1, 2, 3, 4, 5, 6, 7, 8, 9, 10, 11, 12, 13, 14, 15, 16], [0, 1, 2, 3, 4, 5, 6, 7, 8, 9, 10, 11, 12, 13, 14, 15, 16, 20, 21], [0, 1, 2, 3, 4, 5, 6, 7, 8, 9, 10, 11, 12, 13, 14, 15, 16, 20, 21, 22], [0, 1, 2, 3, 4, 5, 6, 7, 8, 9, 10, 11, 12, 13, 14, 15, 16, 20, 21, 22, 23], [0, 1, 2, 3, 4, 5, 6, 7, 8, 9, 10, 11, 12, 13, 14, 15, 16, 17, 18, 19, 20, 21, 22, 23, 24], [0, 1, 2, 3, 4, 5, 6, 7, 8, 9, 10, 11, 12, 13, 14, 15, 16, 17, 18, 19, 20, 21, 22, 23, 24, 25], [0, 1, 2, 3, 4, 5, 6, 7, 8, 9, 10, 11, 12, 13, 14, 15, 16, 17, 18, 19, 20, 21, 22, 23, 24, 25, 26], [0, 1, 2, 3, 4, 5, 6, 7, 8, 9, 10, 11, 12, 13, 14, 15, 16, 17, 18, 19, 20, 21, 22, 23, 24, 25, 26, 27]] [179, 180, 181, 182, 183, 184, 185, 186, 187, 188, 189, 190, 191, 192, 193, 194, 195, 196, 197, 198, 199, 200, 201, 202, 203] [.bool (knownOf u n f x)] [] f_mix (by decide) (by rfl) (by rfl) rfl rfl (by simp -implicitDefEqProofs only [go_sem, hf, ht57, ht62, ht143, ht150, hb, hw, ht161, hx, c1, c2, c3, c4]; rfl) (ob1 (by have h := (fun83 u n f x hf).obb; (try simp only [hf, ht57, ht62, ht143, ht150, hb, hw, ht161, hx, c1, c2, c3, c4] at h); exact h)) (by simp -implicitDefEqProofs only [go_sem, hf, ht57, ht62, ht143, ht150, hb, hw, ht161, hx, c1, c2, c3, c4]; rfl) (by trivial) ?_
                          exact ⟨by simp -implicitDefEqProofs only [go_sem], by simp -implicitDefEqProofs only [go_sem, hf, ht57, ht62, ht143, ht150, hb, hw, ht161, hx, c1, c2, c3, c4, badKnown]⟩
                · refine AW.if (by simp -implicitDefEqProofs only [go_sem, hf, ht57, ht62, ht143, ht150, hb, hw, ht161, hx]; rfl) (fun ht207 => ?_) (fun ht207 => ?_)
                  · refine AW.runs [] (by simp -implicitDefEqProofs only [go_sem, hf, ht57, ht62, ht143, ht150, hb, hw, ht161, hx, ht207]; rfl) (by trivial) ?_
                    exact AW.ret ⟨.inl rfl, _, rfl, Eq.trans (b := .bool false) (by simp -implicitDefEqProofs only [go_sem]) (congrArg AV.bool (dec_f fun h => by have := (h.ins i b hb k x hx).known; rw [← hhd, ht207] at this; cases this))⟩
                  · refine AW.skip ?_
                    show AW _ _ _ _ _
                    refine AW.runs [.int .i64 (makesOf x)] (by simp -implicitDefEqProofs only [go_sem, hf, ht57, ht62, ht143, ht150, hb, hw, ht161, hx, ht207]; rfl) (ob1 ((fun25 x).obi)) ?_
                    refine AW.seq ?_
                    refine AW.join [(1, .int .i64 n), (2, .box g0 (untRow u)), (5, .box (g0 + 1) (fnRow f)), (12, .fz ((waysOf (termsOf f)).map intsRow)), (13, .int .i64 i), (14, .bool hd), (15, .int .i64 k), (16, .box g10 (insRow x)), (230, .bool (badDst f x))] 253 ?_ (fun g18 => ?_)
                    · cases c1 : decide (makesOf x ≥ f.size)
                      · cases c2 : decide (makesOf x < -1)
                        · cases c3 : decide (makesOf x < 0)
                          · refine AW.run [] (by simp -implicitDefEqProofs only [go_sem, hf, ht57, ht62, ht143, ht150, hb, hw, ht161, hx, ht207, c1, c2, c3]; rfl) (by trivial) ?_
                            exact ⟨by simp -implicitDefEqProofs only [go_sem], by simp -implicitDefEqProofs only [go_sem, hf, ht57, ht62, ht143, ht150, hb, hw, ht161, hx, ht207, c1, c2, c3, badDst]⟩
                          · cases c4 : (x.op != 42)
                            · refine AW.run [] (by simp -implicitDefEqProofs only [go_sem, hf, ht57, ht62, ht143, ht150, hb, hw, ht161, hx, ht207, c1, c2, c3, c4]; rfl) (by trivial) ?_
                              exact ⟨by simp -implicitDefEqProofs only [go_sem], by simp -implicitDefEqProofs only [go_sem, hf, ht57, ht62, ht143, ht150, hb, hw, ht161, hx, ht207, c1, c2, c3, c4, badDst]⟩
                            · refine AW.run [.bool (!noDst x.op)] (by simp -implicitDefEqProofs only [go_sem, hf, ht57, ht62, ht143, ht150, hb, hw, ht161, hx, ht207, c1, c2, c3, c4]; rfl) (ob1 (by have h := (fun84 x).obb; (try simp only [hf, ht57, ht62, ht143, ht150, hb, hw, ht161, hx, ht207, c1, c2, c3, c4] at h); exact h)) ?_
                              exact ⟨by simp -implicitDefEqProofs only [go_sem], by simp -implicitDefEqProofs only [go_sem, hf, ht57, ht62, ht143, ht150, hb, hw, ht161, hx, ht207, c1, c2, c3, c4, badDst]⟩
                        · refine AW.run [] (by simp -implicitDefEqProofs only [go_sem, hf, ht57, ht62, ht143, ht150, hb, hw, ht161, hx, ht207, c1, c2]; rfl) (by trivial) ?_
                          exact ⟨by simp -implicitDefEqProofs only [go_sem], by simp -implicitDefEqProofs only [go_sem, hf, ht57, ht62, ht143, ht150, hb, hw, ht161, hx, ht207, c1, c2, badDst]⟩
                      · refine AW.run [] (by simp -implicitDefEqProofs only [go_sem, hf, ht57, ht62, ht143, ht150, hb, hw, ht161, hx, ht207, c1]; rfl) (by trivial) ?_
                        exact ⟨by simp -implicitDefEqProofs only [go_sem], by simp -implicitDefEqProofs only [go_sem, hf, ht57, ht62, ht143, ht150, hb, hw, ht161, hx, ht207, c1, badDst]⟩
                    · refine AW.if (by simp -implicitDefEqProofs only [go_sem, hf, ht57, ht62, ht143, ht150, hb, hw, ht161, hx, ht207]; rfl) (fun ht230 => ?_) (fun ht230 => ?_)
                      · refine AW.runs [] (by simp -implicitDefEqProofs only [go_sem, hf, ht57, ht62, ht143, ht150, hb, hw, ht161, hx, ht207, ht230]; rfl) (by trivial) ?_
                        exact AW.ret ⟨.inl rfl, _, rfl, Eq.trans (b := .bool false) (by simp -implicitDefEqProofs only [go_sem]) (congrArg AV.bool (dec_f fun h => by have := (h.ins i b hb k x hx).dst; rw [ht230] at this; cases this))⟩
                      · refine AW.skip ?_
                        show AW _ _ _ _ _
                        refine AW.runs [.fz ((usesOf x).map intRow)] (by simp -implicitDefEqProofs only [go_sem, hf, ht57, ht62, ht143, ht150, hb, hw, ht161, hx, ht207, ht230]; rfl) (ob1 ((fun62 x hxa).obf)) ?_
                        refine AW.runs [] (by simp -implicitDefEqProofs only [go_sem, hf, ht57, ht62, ht143, ht150, hb, hw, ht161, hx, ht207, ht230]; rfl) (by trivial) ?_
                        refine AW.block ?_
                        refine AW.forH (X := Unit) ((usesOf x).length) (fun q _ => [(1, .int .i64 n), (2, .box g0 (untRow u)), (5, .box (g0 + 1) (fnRow f)), (12, .fz ((waysOf (termsOf f)).map intsRow)), (13, .int .i64 i), (14, .bool hd), (15, .int .i64 k), (18, .fz ((usesOf x).map intRow)), (19, .int .i64 q)]) (fun q _ => ∀ y ∈ (usesOf x).take q, 0 ≤ y ∧ y < f.size) 253 ⟨(), by simp, ⟨by simp -implicitDefEqProofs only [go_sem], by simp -implicitDefEqProofs only [go_sem, hf, ht57, ht62, ht143, ht150, hb, hw, ht161, hx, ht207, ht230]⟩⟩ fun q _ g19 hiq hinvq => ?_
                        refine AW.seq ?_
                        refine AW.runs [] (by simp -implicitDefEqProofs only [go_sem, hf, ht57, ht62, ht143, ht150, hb, hw, ht161, hx, ht207, ht230]; rfl) (by trivial) ?_
                        refine AW.if (by simp -implicitDefEqProofs only [go_sem, hf, ht57, ht62, ht143, ht150, hb, hw, ht161, hx, ht207, ht230]; rfl) (fun ht236 => ?_) (fun ht236 => ?_)
                        · have hltq : q < (usesOf x).length := lt_dec ht236
                          obtain ⟨y, hy⟩ := get_of_lt hltq
                          refine AW.skip ?_
                          show AW _ _ _ _ _
                          refine AW.seq ?_
                          refine AW.block ?_
                          refine AW.join [(1, .int .i64 n), (2, .box g0 (untRow u)), (5, .box (g0 + 1) (fnRow f)), (12, .fz ((waysOf (termsOf f)).map intsRow)), (13, .int .i64 i), (14, .bool hd), (15, .int .i64 k), (18, .fz ((usesOf x).map intRow)), (19, .int .i64 q), (252, .bool (badUse f y))] 253 ?_ (fun g20 => ?_)
                          · cases c1 : decide (y < 0)
                            · refine AW.has (n := 253) [(1, .int .i64 n), (2, .box g0 (untRow u)), (5, .box (g0 + 1) (fnRow f)), (12, .fz ((waysOf (termsOf f)).map intsRow)), (13, .int .i64 i), (14, .bool hd), (15, .int .i64 k), (18, .fz ((usesOf x).map intRow)), (19, .int .i64 q)] (⟨by simp -implicitDefEqProofs only [go_sem], by simp -implicitDefEqProofs only [go_sem, hf, ht57, ht62, ht143, ht150, hb, hw, ht161, hx, ht207, ht230, ht236, hy, c1]⟩) (fun g21 => ?_)
                              refine AW.drw 12 [[], [], [0, 1], [0, 1, 2], [0, 1, 2, 3], [0, 1, 2, 3, 4], [0, 1, 2, 3, 4, 5], [0, 1, 2, 3, 4, 5], [0, 1, 2, 3, 4, 5, 6, 7], [0, 1, 2, 3, 4, 5, 6, 7, 8], [0, 1, 2, 3, 4, 5], [0, 1, 2, 3, 4, 5, 10], [0, 1, 2, 3, 4, 5, 6, 7, 8, 9, 10, 11], [0, 1, 2, 3, 4, 5, 6, 7, 8, 9, 10, 11, 12]] [239, 240, 241, 242, 243, 244, 245, 246, 247, 248, 249, 250] [] [] f_mix (by decide) (by rfl) (by rfl) rfl rfl (by simp -implicitDefEqProofs only [go_sem, hf, ht57, ht62, ht143, ht150, hb, hw, ht161, hx, ht207, ht230, ht236, hy, c1]; rfl) (by trivial) (by simp -implicitDefEqProofs only [go_sem, hf, ht57, ht62, ht143, ht150, hb, hw, ht161, hx, ht207, ht230, ht236, hy, c1]; rfl) (by trivial) ?_
                              exact ⟨by simp -implicitDefEqProofs only [go_sem], by simp -implicitDefEqProofs only [go_sem, hf, ht57, ht62, ht143, ht150, hb, hw, ht161, hx, ht207, ht230, ht236, hy, c1, badUse]⟩
                            · refine AW.has (n := 253) [(1, .int .i64 n), (2, .box g0 (untRow u)), (5, .box (g0 + 1) (fnRow f)), (12, .fz ((waysOf (termsOf f)).map intsRow)), (13, .int .i64 i), (14, .bool hd), (15, .int .i64 k), (18, .fz ((usesOf x).map intRow)), (19, .int .i64 q)] (⟨by simp -implicitDefEqProofs only [go_sem], by simp -implicitDefEqProofs only [go_sem, hf, ht57, ht62, ht143, ht150, hb, hw, ht161, hx, ht207, ht230, ht236, hy, c1]⟩) (fun g22 => ?_)
                              refine AW.drw 12 [[], [], [0, 1], [0, 1, 2], [0, 1, 2, 3], [0, 1, 2, 3, 4], [0, 1, 2, 3, 4, 5], [0, 1, 2, 3, 4, 5], [0, 1, 2, 3, 4, 5, 6, 7], [0, 1, 2, 3, 4, 5, 6, 7, 8], [0, 1, 2, 3, 4, 5], [0, 1, 2, 3, 4, 5, 10], [0, 1, 2, 3, 4, 5, 6, 7, 8, 9, 10, 11], [0, 1, 2, 3, 4, 5, 6, 7, 8, 9, 10, 11, 12]] [239, 240, 241, 242, 243, 244, 245, 246, 247, 248, 249, 250] [] [] f_mix (by decide) (by rfl) (by rfl) rfl rfl (by simp -implicitDefEqProofs only [go_sem, hf, ht57, ht62, ht143, ht150, hb, hw, ht161, hx, ht207, ht230, ht236, hy, c1]; rfl) (by trivial) (by simp -implicitDefEqProofs only [go_sem, hf, ht57, ht62, ht143, ht150, hb, hw, ht161, hx, ht207, ht230, ht236, hy, c1]; rfl) (by trivial) ?_
                              exact ⟨by simp -implicitDefEqProofs only [go_sem], by simp -implicitDefEqProofs only [go_sem, hf, ht57, ht62, ht143, ht150, hb, hw, ht161, hx, ht207, ht230, ht236, hy, c1, badUse]⟩
                          · refine AW.if (by simp -implicitDefEqProofs only [go_sem, hf, ht57, ht62, ht143, ht150, hb, hw, ht161, hx, ht207, ht230, ht236, hy]; rfl) (fun ht252 => ?_) (fun ht252 => ?_)
                            · refine AW.runs [] (by simp -implicitDefEqProofs only [go_sem, hf, ht57, ht62, ht143, ht150, hb, hw, ht161, hx, ht207, ht230, ht236, hy, ht252]; rfl) (by trivial) ?_
                              exact AW.ret ⟨.inl rfl, _, rfl, Eq.trans (b := .bool false) (by simp -implicitDefEqProofs only [go_sem]) (congrArg AV.bool (dec_f fun h => by have := (h.ins i b hb k x hx).uses y (List.mem_of_getElem? hy); unfold badUse at ht252; cases h0 : decide (y < 0) <;> simp only [h0, if_tt, if_ff] at ht252 <;> simp at h0 ht252 <;> omega))⟩
                            · have hyo := badUse_f ht252
                              refine AW.skip ?_
                              show AW _ _ _ _ _
                              refine AW.run [] (by simp -implicitDefEqProofs only [go_sem, hf, ht57, ht62, ht143, ht150, hb, hw, ht161, hx, ht207, ht230, ht236, hy, ht252]; rfl) (by trivial) ?_
                              exact ⟨hltq, (), take_all hinvq hy hyo, ⟨by simp -implicitDefEqProofs only [go_sem], by simp -implicitDefEqProofs only [go_sem, hf, ht57, ht62, ht143, ht150, hb, hw, ht161, hx, ht207, ht230, ht236, hy, ht252, step_int q (Nat.lt_of_lt_of_le hltq (by omega))]⟩⟩
                        · have hus : ∀ y ∈ usesOf x, 0 ≤ y ∧ y < f.size := take_end hinvq (ge_dec ht236)
                          refine AW.exit ?_
                          show AW _ _ _ _ _
                          refine AW.run [] (by simp -implicitDefEqProofs only [go_sem, hf, ht57, ht62, ht143, ht150, hb, hw, ht161, hx, ht207, ht230, ht236]; rfl) (by trivial) ?_
                          exact ⟨hltk, hd, ⟨hhd, upto hinvk.2 hx (by rw [← hhd]; exact ⟨ht207, ht230, hus⟩)⟩, ⟨by simp -implicitDefEqProofs only [go_sem], by simp -implicitDefEqProofs only [go_sem, hf, ht57, ht62, ht143, ht150, hb, hw, ht161, hx, ht207, ht230, ht236, step_int k (Nat.lt_of_lt_of_le hltk (hil))]⟩⟩
            · have hbo : BlockOk u n f i b := fun k2 x2 hx2 => hinvk.2 k2 x2 (by have := (List.getElem?_eq_some_iff.1 hx2).1; have := ge_dec ht161; omega) hx2
              refine AW.exit ?_
              show AW _ _ _ _ _
              refine AW.run [] (by simp -implicitDefEqProofs only [go_sem, hf, ht57, ht62, ht143, ht150, hb, hw, ht161]; rfl) (by trivial) ?_
              exact ⟨hlti, (), upto hinvi hb hbo, ⟨by simp -implicitDefEqProofs only [go_sem], by simp -implicitDefEqProofs only [go_sem, hf, ht57, ht62, ht143, ht150, hb, hw, ht161, step_int i (Nat.lt_of_lt_of_le hlti (hlen))]⟩⟩
          · refine AW.exit ?_
            show AW _ _ _ _ _
            refine AW.runs [] (by simp -implicitDefEqProofs only [go_sem, hf, ht57, ht62, ht143, ht150]; rfl) (by trivial) ?_
            exact AW.ret ⟨.inl rfl, _, rfl, Eq.trans (b := .bool true) (by simp -implicitDefEqProofs only [go_sem]) (congrArg AV.bool (dec_t ⟨ht57, htm, hmn, fun j b hb => hinvi j b (by have := (List.getElem?_eq_some_iff.1 hb).1; have := ge_dec ht150; omega) hb⟩))⟩
end Go.Proofs.Ytgoajlgkbcongaa.Vm
end
section
set_option linter.unusedVariables false
set_option linter.unusedSimpArgs false
set_option maxRecDepth 100000
set_option maxHeartbeats 4000000
namespace Go.Proofs.Ytgoajlgkbcongaa.Vm
open Go Go.RowKit Go.Proofs
def badMain (u : Unt) : Bool := if decide (u.main < 0) then true else match atI u.funcs u.main with
  | some f => if f.params != 0 then true else decide ((u.funcs.length : Int) > 64)
  | none => true
def badPt (u : Unt) (p : Point) : Bool := if decide (p.func < 0) then true else decide (p.func ≥ (u.funcs.length : Int))
def badSc (f : Fn) (y : Int) : Bool := if decide (y < 0) then true else decide (y ≥ (f.vars.length : Int))
def badW (v : Var) : Bool := if decide (v.words < 1) then true else decide (v.words > 16)
structure PtOk (u : Unt) (p : Point) : Prop where
  fn : badPt u p = false
  scope : ∀ (f : Fn), atI u.funcs p.func = some f → ∀ y ∈ p.scope, badSc f y = false
structure FOk (u : Unt) (n : Nat) (f : Fn) : Prop where
  words : ∀ v ∈ f.vars, badW v = false
  fn : FnOk u n f
/-- May a unit be? -/
structure MayP (u : Unt) : Prop where
  main : badMain u = false
  points : ∀ p ∈ u.points, PtOk u p
  funcs : ∀ n f, u.funcs[n]? = some f → FOk u n f
/-- Of a modest size. -/
structure Modest (u : Unt) : Prop where
  funcs : u.funcs.length ≤ 1048576
  points : u.points.length ≤ 1048576
  scopes : ∀ p ∈ u.points, p.scope.length ≤ 1048576
  vars : ∀ f ∈ u.funcs, f.vars.length ≤ 1048576
  blocks : ∀ f ∈ u.funcs, f.blocks.length ≤ 1048576
  ins : ∀ f ∈ u.funcs, insTo f f.blocks.length ≤ 1048576
  args : ∀ f ∈ u.funcs, ArgsLe f
theorem atI_ge {α : Type} {l : List α} {m : Nat} (h : decide ((m : Int) ≥ (l.length : Int)) = true) : atI l (m : Int) = none := by
  rw [atI_nat]; exact List.getElem?_eq_none (by have := of_decide_eq_true h; omega)
theorem lt_of_ge_f {α : Type} {l : List α} {m : Nat} (h : decide ((m : Int) ≥ (l.length : Int)) = false) : ∃ x, l[m]? = some x := get_of_lt (by have := of_decide_eq_false h; omega)
theorem nat_of_lt_f {k : Int} (h : decide (k < 0) = false) : ∃ m : Nat, k = (m : Int) := Int.eq_ofNat_of_zero_le (by have := of_decide_eq_false h; omega)
theorem nat_lt0 (m : Nat) : decide ((m : Int) < 0) = false := decide_eq_false (by omega)
theorem badPt_f {u : Unt} {p : Point} (h : badPt u p = false) : ∃ (k : Nat) (f : Fn), p.func = (k : Int) ∧ u.funcs[k]? = some f := by
  unfold badPt at h
  cases h0 : decide (p.func < 0) <;> simp only [h0, if_tt, if_ff] at h
  · obtain ⟨k, hk⟩ := nat_of_lt_f h0
    rw [hk] at h
    obtain ⟨f, hf⟩ := lt_of_ge_f h
    exact ⟨k, f, hk, hf⟩
  · cases h
attribute [go_sem] nat_lt0
theorem fun23 (u : Unt) (hu : Modest u) : Fun Try.prog 23 [.agg (untRow u)] (fun r => r = .bool (dec (MayP u))) := by
  refine Fun.ok Try.func23 rfl (by rfl) 127 Try.ntmps23 (by rfl) fun hok K g0 => ?_
  simp -implicitDefEqProofs only [go_sem]
  refine AW.runs [] (by simp -implicitDefEqProofs only [go_sem]; rfl) (by trivial) ?_
  refine AW.seq ?_
  refine AW.join [(1, .box g0 (untRow u)), (35, .bool (badMain u))] 127 ?_ (fun g1 => ?_)
  · cases c1 : decide (u.main < 0)
    · obtain ⟨m, hm⟩ := nat_of_lt_f c1
      cases c2 : decide ((m : Int) ≥ (u.funcs.length : Int))
      · obtain ⟨f0, hf0⟩ := lt_of_ge_f c2
        have hat : atI u.funcs (m : Int) = some f0 := by rw [atI_nat, hf0]
        cases c3 : (f0.params != 0)
        · refine AW.run [] (by simp -implicitDefEqProofs only [go_sem, c1, hm, c2, hf0, hat, c3]; rfl) (by trivial) ?_
          exact ⟨by simp -implicitDefEqProofs only [go_sem], by simp -implicitDefEqProofs only [go_sem, c1, hm, c2, hf0, hat, c3, badMain]; try simp [c1, hm, c2, hf0, hat, c3, badMain]⟩
        · refine AW.run [] (by simp -implicitDefEqProofs only [go_sem, c1, hm, c2, hf0, hat, c3]; rfl) (by trivial) ?_
          exact ⟨by simp -implicitDefEqProofs only [go_sem], by simp -implicitDefEqProofs only [go_sem, c1, hm, c2, hf0, hat, c3, badMain]; try simp [c1, hm, c2, hf0, hat, c3, badMain]⟩
      · have hat : atI u.funcs (m : Int) = none := atI_ge c2
        refine AW.run [] (by simp -implicitDefEqProofs only [go_sem, c1, hm, c2, hat]; rfl) (by trivial) ?_
        exact ⟨by simp -implicitDefEqProofs only [go_sem], by simp -implicitDefEqProofs only [go_sem, c1, hm, c2, hat, badMain]; try simp [c1, hm, c2, hat, badMain]⟩
    · refine AW.run [] (by simp -implicitDefEqProofs only [go_sem, c1]; rfl) (by trivial) ?_
      exact ⟨by simp -implicitDefEqProofs only [go_sem], by simp -implicitDefEqProofs only [go_sem, c1, badMain]; try simp [c1, badMain]⟩
  · refine AW.if (by simp -implicitDefEqProofs only [go_sem]; rfl) (fun ht35 => ?_) (fun ht35 => ?_)
    · refine AW.runs [] (by simp -implicitDefEqProofs only [go_sem, ht35]; rfl) (by trivial) ?_
      exact AW.ret ⟨.inl rfl, _, rfl, Eq.trans (b := .bool false) (by simp -implicitDefEqProofs only [go_sem]) (congrArg AV.bool (dec_f fun h => by rw [h.main] at ht35; cases ht35))⟩
    · refine AW.skip ?_
      show AW _ _ _ _ _
      refine AW.seq ?_
      refine AW.runs [] (by simp -implicitDefEqProofs only [go_sem, ht35]; rfl) (by trivial) ?_
      refine AW.block ?_
      refine AW.forH (X := Unit) (u.points.length) (fun i _ => [(1, .box g0 (untRow u)), (3, .int .i64 i)]) (fun i _ => ∀ p ∈ u.points.take i, PtOk u p) 127 ⟨(), by simp, ⟨by simp -implicitDefEqProofs only [go_sem], by simp -implicitDefEqProofs only [go_sem, ht35]; try simp [ht35]⟩⟩ fun i _ g2 hii hinvi => ?_
      refine AW.seq ?_
      refine AW.runs [] (by simp -implicitDefEqProofs only [go_sem, ht35]; rfl) (by trivial) ?_
      refine AW.if (by simp -implicitDefEqProofs only [go_sem, ht35]; rfl) (fun ht40 => ?_) (fun ht40 => ?_)
      · have hlti : i < u.points.length := lt_dec ht40
        obtain ⟨p, hp⟩ := get_of_lt hlti
        have hpm := List.mem_of_getElem? hp
        refine AW.skip ?_
        show AW _ _ _ _ _
        refine AW.seq ?_
        refine AW.block ?_
        refine AW.runs [] (by simp -implicitDefEqProofs only [go_sem, ht35, ht40, hp]; rfl) (by trivial) ?_
        refine AW.seq ?_
        refine AW.join [(1, .box g0 (untRow u)), (3, .int .i64 i), (4, .box g2 (pointRow p)), (58, .bool (badPt u p))] 127 ?_ (fun g3 => ?_)
        · cases c1 : decide (p.func < 0)
          · refine AW.run [] (by simp -implicitDefEqProofs only [go_sem, ht35, ht40, hp, c1]; rfl) (by trivial) ?_
            exact ⟨by simp -implicitDefEqProofs only [go_sem], by simp -implicitDefEqProofs only [go_sem, ht35, ht40, hp, c1, badPt]; try simp [ht35, ht40, hp, c1, badPt]⟩
          · refine AW.run [] (by simp -implicitDefEqProofs only [go_sem, ht35, ht40, hp, c1]; rfl) (by trivial) ?_
            exact ⟨by simp -implicitDefEqProofs only [go_sem], by simp -implicitDefEqProofs only [go_sem, ht35, ht40, hp, c1, badPt]; try simp [ht35, ht40, hp, c1, badPt]⟩
        · refine AW.if (by simp -implicitDefEqProofs only [go_sem, ht35, ht40, hp]; rfl) (fun ht58 => ?_) (fun ht58 => ?_)
          · refine AW.runs [] (by simp -implicitDefEqProofs only [go_sem, ht35, ht40, hp, ht58]; rfl) (by trivial) ?_
            exact AW.ret ⟨.inl rfl, _, rfl, Eq.trans (b := .bool false) (by simp -implicitDefEqProofs only [go_sem]) (congrArg AV.bool (dec_f fun h => by have := (h.points p hpm).fn; rw [ht58] at this; cases this))⟩
          · obtain ⟨k, f, hk, hf⟩ := badPt_f ht58
            refine AW.skip ?_
            show AW _ _ _ _ _
            refine AW.runs [] (by simp -implicitDefEqProofs only [go_sem, ht35, ht40, hp, ht58, hk, hf]; rfl) (by trivial) ?_
            refine AW.block ?_
            refine AW.forH (X := Unit) (p.scope.length) (fun j _ => [(1, .box g0 (untRow u)), (3, .int .i64 i), (4, .box g2 (pointRow p)), (5, .int .i64 j)]) (fun j _ => ∀ y ∈ p.scope.take j, badSc f y = false) 127 ⟨(), by simp, ⟨by simp -implicitDefEqProofs only [go_sem], by simp -implicitDefEqProofs only [go_sem, ht35, ht40, hp, ht58, hk, hf]; try simp [ht35, ht40, hp, ht58, hk, hf]⟩⟩ fun j _ g4 hij hinvj => ?_
            refine AW.seq ?_
            refine AW.runs [] (by simp -implicitDefEqProofs only [go_sem, ht35, ht40, hp, ht58, hk, hf]; rfl) (by trivial) ?_
            refine AW.if (by simp -implicitDefEqProofs only [go_sem, ht35, ht40, hp, ht58, hk, hf]; rfl) (fun ht63 => ?_) (fun ht63 => ?_)
            · have hltj : j < p.scope.length := lt_dec ht63
              obtain ⟨y, hy⟩ := get_of_lt hltj
              refine AW.skip ?_
              show AW _ _ _ _ _
              refine AW.seq ?_
              refine AW.block ?_
              refine AW.join [(1, .box g0 (untRow u)), (3, .int .i64 i), (4, .box g2 (pointRow p)), (5, .int .i64 j), (87, .bool (badSc f y))] 127 ?_ (fun g5 => ?_)
              · cases c1 : decide (y < 0)
                · refine AW.has (n := 127) [(1, .box g0 (untRow u)), (3, .int .i64 i), (4, .box g2 (pointRow p)), (5, .int .i64 j)] (⟨by simp -implicitDefEqProofs only [go_sem], by simp -implicitDefEqProofs only [go_sem, ht35, ht40, hp, ht58, hk, hf, ht63, hy, c1]; try simp [ht35, ht40, hp, ht58, hk, hf, ht63, hy, c1]⟩) (fun g6 => ?_)
                  refine AW.drw 20 [[], [0], [], [0, 1, 2], [0, 1, 2, 3], [0, 1, 2, 3, 4], [0, 1, 2, 3, 4, 5], [0, 1, 2, 3, 4, 5, 6], [0, 1, 2, 3, 4, 5, 6, 7], [0, 1, 2, 3, 4, 5, 6], [0, 1, 2, 3, 4, 5, 6, 7, 8, 9], [0, 1, 2, 3, 4, 5, 6, 7, 8, 9, 10], [0, 1, 2, 3, 4, 5, 6], [0, 1, 2, 3, 4, 5, 6, 12], [0, 1, 2, 3, 4, 5, 6], [0, 1, 2, 3, 4, 5, 6, 14], [0, 1, 2, 3, 4, 5, 6, 12, 13, 14, 15], [0, 1, 2, 3, 4, 5, 6, 12, 13, 14, 15, 16], [0, 1, 2, 3, 4, 5, 6, 12, 13, 14, 15, 16, 17], [0, 1, 2, 3, 4, 5, 6, 12, 13, 14, 15, 16, 17, 18], [0, 1, 2, 3, 4, 5, 6, 7, 8, 9, 10, 11, 12, 13, 14, 15, 16, 17, 18, 19], [0, 1, 2, 3, 4, 5, 6, 7, 8, 9, 10, 11, 12, 13, 14, 15, 16, 17, 18, 19, 20]] [66, 67, 68, 69, 70, 71, 72, 73, 74, 75, 76, 77, 78, 79, 80, 81, 82, 83, 84, 85] [] [] f_mix (by decide) (by rfl) (by rfl) rfl rfl (by simp -implicitDefEqProofs only [go_sem, ht35, ht40, hp, ht58, hk, hf, ht63, hy, c1]; rfl) (by trivial) (by simp -implicitDefEqProofs only [go_sem, ht35, ht40, hp, ht58, hk, hf, ht63, hy, c1]; rfl) (by trivial) ?_
                  exact ⟨by simp -implicitDefEqProofs only [go_sem], by simp -implicitDefEqProofs only [go_sem, ht35, ht40, hp, ht58, hk, hf, ht63, hy, c1, badSc]; try simp [ht35, ht40, hp, ht58, hk, hf, ht63, hy, c1, badSc]⟩
                · refine AW.has (n := 127) [(1, .box g0 (untRow u)), (3, .int .i64 i), (4, .box g2 (pointRow p)), (5, .int .i64 j)] (⟨by simp -implicitDefEqProofs only [go_sem], by simp -implicitDefEqProofs only [go_sem, ht35, ht40, hp, ht58, hk, hf, ht63, hy, c1]; try simp [ht35, ht40, hp, ht58, hk, hf, ht63, hy, c1]⟩) (fun g7 => ?_)
                  refine AW.drw 20 [[], [0], [], [0, 1, 2], [0, 1, 2, 3], [0, 1, 2, 3, 4], [0, 1, 2, 3, 4, 5], [0, 1, 2, 3, 4, 5, 6], [0, 1, 2, 3, 4, 5, 6, 7], [0, 1, 2, 3, 4, 5, 6], [0, 1, 2, 3, 4, 5, 6, 7, 8, 9], [0, 1, 2, 3, 4, 5, 6, 7, 8, 9, 10], [0, 1, 2, 3, 4, 5, 6], [0, 1, 2, 3, 4, 5, 6, 12], [0, 1, 2, 3, 4, 5, 6], [0, 1, 2, 3, 4, 5, 6, 14], [0, 1, 2, 3, 4, 5, 6, 12, 13, 14, 15], [0, 1, 2, 3, 4, 5, 6, 12, 13, 14, 15, 16], [0, 1, 2, 3, 4, 5, 6, 12, 13, 14, 15, 16, 17], [0, 1, 2, 3, 4, 5, 6, 12, 13, 14, 15, 16, 17, 18], [0, 1, 2, 3, 4, 5, 6, 7, 8, 9, 10, 11, 12, 13, 14, 15, 16, 17, 18, 19], [0, 1, 2, 3, 4, 5, 6, 7, 8, 9, 10, 11, 12, 13, 14, 15, 16, 17, 18, 19, 20]] [66, 67, 68, 69, 70, 71, 72, 73, 74, 75, 76, 77, 78, 79, 80, 81, 82, 83, 84, 85] [] [] f_mix (by decide) (by rfl) (by rfl) rfl rfl (by simp -implicitDefEqProofs only [go_sem, ht35, ht40, hp, ht58, hk, hf, ht63, hy, c1]; rfl) (by trivial) (by simp -implicitDefEqProofs only [go_sem, ht35, ht40, hp, ht58, hk, hf, ht63, hy, c1]; rfl) (by trivial) ?_
                  exact ⟨by simp -implicitDefEqProofs only [go_sem], by simp -implicitDefEqProofs only [go_sem, ht35, ht40, hp, ht58, hk, hf, ht63, hy, c1, badSc]; try simp [ht35, ht40, hp, ht58, hk, hf, ht63, hy, c1, badSc]⟩
              · refine AW.if (by simp -implicitDefEqProofs only [go_sem, ht35, ht40, hp, ht58, hk, hf, ht63, hy]; rfl) (fun ht87 => ?_) (fun ht87 => ?_)
                · refine AW.runs [] (by simp -implicitDefEqProofs only [go_sem, ht35, ht40, hp, ht58, hk, hf, ht63, hy, ht87]; rfl) (by trivial) ?_
                  exact AW.ret ⟨.inl rfl, _, rfl, Eq.trans (b := .bool false) (by simp -implicitDefEqProofs only [go_sem]) (congrArg AV.bool (dec_f fun h => by have := (h.points p hpm).scope f (by rw [hk, atI_nat, hf]) y (List.mem_of_getElem? hy); rw [ht87] at this; cases this))⟩
                · refine AW.skip ?_
                  show AW _ _ _ _ _
                  refine AW.run [] (by simp -implicitDefEqProofs only [go_sem, ht35, ht40, hp, ht58, hk, hf, ht63, hy, ht87]; rfl) (by trivial) ?_
                  exact ⟨hltj, (), take_all hinvj hy ht87, ⟨by simp -implicitDefEqProofs only [go_sem], by simp -implicitDefEqProofs only [go_sem, ht35, ht40, hp, ht58, hk, hf, ht63, hy, ht87, step_int j (Nat.lt_of_lt_of_le hltj (by have := hu.scopes p hpm; omega))]; try simp [ht35, ht40, hp, ht58, hk, hf, ht63, hy, ht87, step_int j (Nat.lt_of_lt_of_le hltj (by have := hu.scopes p hpm; omega))]⟩⟩
            · have hsc : PtOk u p := ⟨ht58, fun f2 hf2 y hy => by rw [hk, atI_nat, hf] at hf2; cases hf2; exact take_end hinvj (ge_dec ht63) y hy⟩
              refine AW.exit ?_
              show AW _ _ _ _ _
              refine AW.run [] (by simp -implicitDefEqProofs only [go_sem, ht35, ht40, hp, ht58, hk, hf, ht63]; rfl) (by trivial) ?_
              exact ⟨hlti, (), take_all hinvi hp hsc, ⟨by simp -implicitDefEqProofs only [go_sem], by simp -implicitDefEqProofs only [go_sem, ht35, ht40, hp, ht58, hk, hf, ht63, step_int i (Nat.lt_of_lt_of_le hlti (by have := hu.points; omega))]; try simp [ht35, ht40, hp, ht58, hk, hf, ht63, step_int i (Nat.lt_of_lt_of_le hlti (by have := hu.points; omega))]⟩⟩
      · have hpts : ∀ p ∈ u.points, PtOk u p := take_end hinvi (ge_dec ht40)
        refine AW.exit ?_
        show AW _ _ _ _ _
        refine AW.seq ?_
        refine AW.runs [] (by simp -implicitDefEqProofs only [go_sem, ht35, ht40]; rfl) (by trivial) ?_
        refine AW.block ?_
        refine AW.forH (X := Unit) (u.funcs.length) (fun i _ => [(1, .box g0 (untRow u)), (6, .int .i64 i)]) (fun i _ => ∀ j f, j < i → u.funcs[j]? = some f → FOk u j f) 127 ⟨(), fun j f h => by omega, ⟨by simp -implicitDefEqProofs only [go_sem], by simp -implicitDefEqProofs only [go_sem, ht35, ht40]; try simp [ht35, ht40]⟩⟩ fun i _ g8 hii hinvi => ?_
        refine AW.seq ?_
        refine AW.runs [] (by simp -implicitDefEqProofs only [go_sem, ht35, ht40]; rfl) (by trivial) ?_
        refine AW.if (by simp -implicitDefEqProofs only [go_sem, ht35, ht40]; rfl) (fun ht92 => ?_) (fun ht92 => ?_)
        · have hlti : i < u.funcs.length := lt_dec ht92
          obtain ⟨f, hf⟩ := get_of_lt hlti
          refine AW.skip ?_
          show AW _ _ _ _ _
          refine AW.seq ?_
          refine AW.block ?_
          refine AW.seq ?_
          refine AW.runs [] (by simp -implicitDefEqProofs only [go_sem, ht35, ht40, ht92, hf]; rfl) (by trivial) ?_
          refine AW.block ?_
          refine AW.forH (X := Unit) (f.vars.length) (fun j _ => [(1, .box g0 (untRow u)), (6, .int .i64 i), (7, .int .i64 j)]) (fun j _ => ∀ v ∈ f.vars.take j, badW v = false) 127 ⟨(), by simp, ⟨by simp -implicitDefEqProofs only [go_sem], by simp -implicitDefEqProofs only [go_sem, ht35, ht40, ht92, hf]; try simp [ht35, ht40, ht92, hf]⟩⟩ fun j _ g9 hij hinvj => ?_
          refine AW.seq ?_
          refine AW.runs [] (by simp -implicitDefEqProofs only [go_sem, ht35, ht40, ht92, hf]; rfl) (by trivial) ?_
          refine AW.if (by simp -implicitDefEqProofs only [go_sem, ht35, ht40, ht92, hf]; rfl) (fun ht103 => ?_) (fun ht103 => ?_)
          · have hltj : j < f.vars.length := lt_dec ht103
            obtain ⟨v, hv⟩ := get_of_lt hltj
            refine AW.skip ?_
            show AW _ _ _ _ _
            refine AW.seq ?_
            refine AW.block ?_
            refine AW.runs [] (by simp -implicitDefEqProofs only [go_sem, ht35, ht40, ht92, hf, ht103, hv]; rfl) (by trivial) ?_
            refine AW.join [(1, .box g0 (untRow u)), (6, .int .i64 i), (7, .int .i64 j), (122, .bool (badW v))] 127 ?_ (fun g10 => ?_)
            · cases c1 : decide (v.words < 1)
              · refine AW.run [] (by simp -implicitDefEqProofs only [go_sem, ht35, ht40, ht92, hf, ht103, hv, c1]; rfl) (by trivial) ?_
                exact ⟨by simp -implicitDefEqProofs only [go_sem], by simp -implicitDefEqProofs only [go_sem, ht35, ht40, ht92, hf, ht103, hv, c1, badW]; try simp [ht35, ht40, ht92, hf, ht103, hv, c1, badW]⟩
              · refine AW.run [] (by simp -implicitDefEqProofs only [go_sem, ht35, ht40, ht92, hf, ht103, hv, c1]; rfl) (by trivial) ?_
                exact ⟨by simp -implicitDefEqProofs only [go_sem], by simp -implicitDefEqProofs only [go_sem, ht35, ht40, ht92, hf, ht103, hv, c1, badW]; try simp [ht35, ht40, ht92, hf, ht103, hv, c1, badW]⟩
            · refine AW.if (by simp -implicitDefEqProofs only [go_sem, ht35, ht40, ht92, hf, ht103, hv]; rfl) (fun ht122 => ?_) (fun ht122 => ?_)
              · refine AW.runs [] (by simp -implicitDefEqProofs only [go_sem, ht35, ht40, ht92, hf, ht103, hv, ht122]; rfl) (by trivial) ?_
                exact AW.ret ⟨.inl rfl, _, rfl, Eq.trans (b := .bool false) (by simp -implicitDefEqProofs only [go_sem]) (congrArg AV.bool (dec_f fun h => by have := (h.funcs i f hf).words v (List.mem_of_getElem? hv); rw [ht122] at this; cases this))⟩
              · refine AW.skip ?_
                show AW _ _ _ _ _
                refine AW.run [] (by simp -implicitDefEqProofs only [go_sem, ht35, ht40, ht92, hf, ht103, hv, ht122]; rfl) (by trivial) ?_
                exact ⟨hltj, (), take_all hinvj hv ht122, ⟨by simp -implicitDefEqProofs only [go_sem], by simp -implicitDefEqProofs only [go_sem, ht35, ht40, ht92, hf, ht103, hv, ht122, step_int j (Nat.lt_of_lt_of_le hltj (by have := hu.vars f (List.mem_of_getElem? hf); omega))]; try simp [ht35, ht40, ht92, hf, ht103, hv, ht122, step_int j (Nat.lt_of_lt_of_le hltj (by have := hu.vars f (List.mem_of_getElem? hf); omega))]⟩⟩
          · have hvs : ∀ v ∈ f.vars, badW v = false := take_end hinvj (ge_dec ht103)
            refine AW.exit ?_
            show AW _ _ _ _ _
            refine AW.runs [.bool (dec (FnOk u i f))] (by simp -implicitDefEqProofs only [go_sem, ht35, ht40, ht92, hf, ht103]; rfl) (ob1 (by have h := (fun61 u i f hf (hu.args f (List.mem_of_getElem? hf)) (Nat.le_trans (hu.ins f (List.mem_of_getElem? hf)) (by decide))).obb; (try simp only [ht35, ht40, ht92, hf, ht103] at h); exact h)) ?_
            refine AW.if (by simp -implicitDefEqProofs only [go_sem, ht35, ht40, ht92, hf, ht103]; rfl) (fun ht126 => ?_) (fun ht126 => ?_)
            · refine AW.runs [] (by simp -implicitDefEqProofs only [go_sem, ht35, ht40, ht92, hf, ht103, ht126]; rfl) (by trivial) ?_
              exact AW.ret ⟨.inl rfl, _, rfl, Eq.trans (b := .bool false) (by simp -implicitDefEqProofs only [go_sem]) (congrArg AV.bool (dec_f fun h => by have := dec_true.2 (h.funcs i f hf).fn; simp [this] at ht126))⟩
            · refine AW.skip ?_
              show AW _ _ _ _ _
              refine AW.run [] (by simp -implicitDefEqProofs only [go_sem, ht35, ht40, ht92, hf, ht103, ht126]; rfl) (by trivial) ?_
              exact ⟨hlti, (), upto hinvi hf ⟨hvs, dec_true.1 (by simpa using ht126)⟩, ⟨by simp -implicitDefEqProofs only [go_sem], by simp -implicitDefEqProofs only [go_sem, ht35, ht40, ht92, hf, ht103, ht126, step_int i (Nat.lt_of_lt_of_le hlti (by have := hu.funcs; omega))]; try simp [ht35, ht40, ht92, hf, ht103, ht126, step_int i (Nat.lt_of_lt_of_le hlti (by have := hu.funcs; omega))]⟩⟩
        · refine AW.exit ?_
          show AW _ _ _ _ _
          refine AW.runs [] (by simp -implicitDefEqProofs only [go_sem, ht35, ht40, ht92]; rfl) (by trivial) ?_
          exact AW.ret ⟨.inl rfl, _, rfl, Eq.trans (b := .bool true) (by simp -implicitDefEqProofs only [go_sem]) (congrArg AV.bool (dec_t ⟨ht35, hpts, fun n f hf => hinvi n f (by have := (List.getElem?_eq_some_iff.1 hf).1; have := ge_dec ht92; omega) hf⟩))⟩
end Go.Proofs.Ytgoajlgkbcongaa.Vm
end
section
set_option linter.unusedVariables false
set_option linter.unusedSimpArgs false
set_option maxRecDepth 100000
set_option maxHeartbeats 4000000
namespace Go.Proofs.Ytgoajlgkbcongaa.Vm
open Go Go.RowKit Go.Proofs
theorem dst_lt {d n : Nat} (h : d < n) : ∀ e, some d = some e → e < n := fun e he => by cases he; exact h
theorem all_var (l : List Var) : (l.map varRow).all (fun r => r.length == 6) = true := by simp [varRow]
theorem all_pt (l : List Point) : (l.map pointRow).all (fun r => r.length == 3) = true := by simp [pointRow]
theorem all_bool (l : List Bool) : (l.map boolRow).all (fun r => r.length == 1) = true := by simp [boolRow]
attribute [go_sem] all_var all_pt all_bool List.all_cons List.all_nil Bool.and_true
theorem frz_vars (l : List Var) : (l.map varRow).map (fun r => r.map AV.frz) = l.map varRow := by simp [varRow, AV.frz, Function.comp_def]
theorem frz_pts (l : List Point) : (l.map pointRow).map (fun r => r.map AV.frz) = l.map pointRow := by simp [pointRow, AV.frz, Function.comp_def]
theorem frz_insRow (x : Ins) : (insRow x).map AV.frz = insRow x := by simp [insRow, AV.frz]
theorem frz_blockRow (b : Block) : (blockRow b).map AV.frz = blockRow b := by simp [blockRow, AV.frz]
theorem frz_fnRow (f : Fn) : (fnRow f).map AV.frz = fnRow f := by simp [fnRow, AV.frz]
theorem frz_untRow (u : Unt) : (untRow u).map AV.frz = untRow u := by simp [untRow, AV.frz]
theorem fun79 (l : List Int) (hl : l.length ≤ 1048576) : Fun Try.prog 79 [.fz (l.map intRow)] (fun r => r.frz = .fz (l.map intRow)) := by
  refine Fun.ok Try.func79 rfl (by rfl) 8 Try.ntmps79 (by rfl) fun hok K g0 => ?_
  simp -implicitDefEqProofs only [go_sem]
  have hb : l.length * 8 ≤ 140737488355328 := by omega
  refine AW.runs [] (by simp -implicitDefEqProofs only [go_sem]; rfl) (by trivial) ?_
  refine AW.seq (AW.seq (AW.region ?_))
  refine LW.split 1 [] (by simp -implicitDefEqProofs only [go_sem]; rfl) (by trivial) ?_
  refine LW.eqNil rfl rfl Try.underlying45 (by simp -implicitDefEqProofs only [go_sem, nilAble]) (dst_lt (by simp -implicitDefEqProofs only [go_sem])) (fun b hb => ⟨_, by simp -implicitDefEqProofs only [go_sem]; rfl, ?_⟩)
  refine LW.nil ?_
  show AW _ _ _ _ _
  refine AW.if (by simp -implicitDefEqProofs only [go_sem]; rfl) (fun h => ?_) (fun h => ?_)
  · subst h
    have hz : l = [] := by
      simp -implicitDefEqProofs only [go_sem, nilB] at hb
      cases l with
      | nil => rfl
      | cons x l => simp at hb
    subst hz
    exact AW.runs [] (by simp -implicitDefEqProofs only [go_sem]; rfl) (by trivial) (AW.ret ⟨.inl rfl, _, rfl, by simp -implicitDefEqProofs only [go_sem]⟩)
  · refine AW.skip ?_
    show AW _ _ _ _ _
    exact AW.runs [] (by simp -implicitDefEqProofs only [go_sem, *]; rfl) (by trivial) (AW.ret ⟨.inl rfl, _, rfl, by simp -implicitDefEqProofs only [go_sem]⟩)
theorem flat_row1 (r : List AV) : flatRows [r] = r.all AV.flat := by simp [flatRows]
theorem flat_own (id z : Nat) (rows : List (List AV)) : (AV.own id z rows).flat = false := rfl
theorem flat_fz (rows : List (List AV)) : (AV.fz rows).flat = true := rfl
theorem flat_str (t : ByteArray) : (AV.str t).flat = true := rfl
theorem flat_nil : AV.nil.flat = true := rfl
attribute [go_sem] flat_row1 flat_own flat_fz flat_str flat_nil Bool.and_false
theorem rows_snoc (l : List (List AV)) (r : List AV) (p : List (List AV)) (h : l.map (fun r => r.map AV.frz) = p) : (l ++ [r]).map (fun r => r.map AV.frz) = p ++ [r.map AV.frz] := by rw [List.map_append, h]; rfl
theorem take_map {α β : Type} (f : α → β) {l : List α} {i : Nat} {x : α} (h : l[i]? = some x) : (l.take (i + 1)).map f = (l.take i).map f ++ [f x] := by rw [List.take_add_one, h]; simp
theorem frz_own (id z : Nat) (rows : List (List AV)) : (AV.own id z rows).frz = .fz (rows.map fun r => r.map AV.frz) := by rw [AV.frz]
theorem len_of_map {α β γ : Type} {f : α → γ} {g : β → γ} {a : List α} {b : List β} (h : a.map f = b.map g) : a.length = b.length := by have := congrArg List.length h; simpa using this
theorem fun55 (f : Fn) (hb : f.blocks.length ≤ 1048576) (hv : f.vars.length ≤ 1048576) (hi : ∀ b ∈ f.blocks, b.ins.length ≤ 1048576) (ha : ArgsLe f) : Fun Try.prog 55 [.agg (fnRow f)] (fun r => r.frz = .agg (fnRow f)) := by
  refine Fun.ok Try.func55 rfl (by rfl) 64 Try.ntmps55 (by rfl) fun hok K g0 => ?_
  simp -implicitDefEqProofs only [go_sem]
  have hvb : f.vars.length * 80 ≤ 140737488355328 := by omega
  refine AW.runs [] (by simp -implicitDefEqProofs only [go_sem, hvb]; rfl) (by trivial) ?_
  refine AW.runs [] (by simp -implicitDefEqProofs only [go_sem, hvb]; rfl) (by trivial) ?_
  refine AW.runs [] (by simp -implicitDefEqProofs only [go_sem, hvb]; rfl) (by trivial) ?_
  refine AW.runs [] (by simp -implicitDefEqProofs only [go_sem, hvb]; rfl) (by trivial) ?_
  refine AW.seq ?_
  refine AW.nilOwn (1, [(0, 4)]) 5 (by simp -implicitDefEqProofs only [go_sem]) ?_
  refine AW.runs [] (by simp -implicitDefEqProofs only [go_sem, hvb]; rfl) (by trivial) ?_
  refine AW.block ?_
  refine AW.forH (X := Nat × List (List AV)) (f.blocks.length) (fun i y => [(1, .box g0 [.str f.name, .int .i64 f.params, .bool f.result, .own (g0 + 3) 6 (f.vars.map varRow), .own y.1 5 y.2, .int .i64 f.size]), (2, .box (g0 + 1) [.str ByteArray.empty, .int .i64 0, .bool false, .nil, .nil, .int .i64 0]), (3, .fz (f.blocks.map blockRow)), (4, .int .i64 i)]) (fun i y => y.2.map (fun r => r.map AV.frz) = (f.blocks.take i).map blockRow) 64 ⟨((g0 + 4), []), by simp, ⟨by simp -implicitDefEqProofs only [go_sem], by simp -implicitDefEqProofs only [go_sem, hvb]; try simp [hvb]⟩⟩ fun i y g1 hii hinvi => ?_
  refine AW.seq ?_
  refine AW.runs [] (by simp -implicitDefEqProofs only [go_sem, hvb]; rfl) (by trivial) ?_
  refine AW.if (by simp -implicitDefEqProofs only [go_sem, hvb]; rfl) (fun ht19 => ?_) (fun ht19 => ?_)
  · have hlti : i < f.blocks.length := lt_dec ht19
    obtain ⟨b, hbb⟩ := get_of_lt hlti
    have hbm := List.mem_of_getElem? hbb
    have hil := hi b hbm
    have hy2 : y.2.length ≤ 1048576 := by have := len_of_map hinvi; rw [List.length_take] at this; omega
    refine AW.skip ?_
    show AW _ _ _ _ _
    refine AW.seq ?_
    refine AW.block ?_
    refine AW.runs [] (by simp -implicitDefEqProofs only [go_sem, hvb, ht19, hbb]; rfl) (by trivial) ?_
    refine AW.nilOwn (5, [(0, 0)]) 7 (by simp -implicitDefEqProofs only [go_sem]) ?_
    refine AW.seq ?_
    refine AW.runs [] (by simp -implicitDefEqProofs only [go_sem, hvb, ht19, hbb]; rfl) (by trivial) ?_
    refine AW.block ?_
    refine AW.forH (X := Nat × List (List AV)) (b.ins.length) (fun k z => [(1, .box g0 [.str f.name, .int .i64 f.params, .bool f.result, .own (g0 + 3) 6 (f.vars.map varRow), .own y.1 5 y.2, .int .i64 f.size]), (2, .box (g0 + 1) [.str ByteArray.empty, .int .i64 0, .bool false, .nil, .nil, .int .i64 0]), (3, .fz (f.blocks.map blockRow)), (4, .int .i64 i), (5, .box g1 [.own z.1 7 z.2, .int .u8 b.term.kind, .int .i64 b.term.a, .int .i64 b.term.to, .int .i64 b.term.els]), (6, .int .i64 k)]) (fun k z => z.2.map (fun r => r.map AV.frz) = (b.ins.take k).map insRow) 64 ⟨((g1 + 1), []), by simp, ⟨by simp -implicitDefEqProofs only [go_sem], by simp -implicitDefEqProofs only [go_sem, hvb, ht19, hbb]; try simp [hvb, ht19, hbb]⟩⟩ fun k z g2 hik hinvk => ?_
    refine AW.seq ?_
    refine AW.runs [] (by simp -implicitDefEqProofs only [go_sem, hvb, ht19, hbb]; rfl) (by trivial) ?_
    refine AW.if (by simp -implicitDefEqProofs only [go_sem, hvb, ht19, hbb]; rfl) (fun ht35 => ?_) (fun ht35 => ?_)
    · have hltk : k < b.ins.length := lt_dec ht35
      obtain ⟨x, hx⟩ := get_of_lt hltk
      have hxa : x.args.length * 8 ≤ 140737488355328 := by have := ha b hbm x (List.mem_of_getElem? hx); omega
      have hz2 : z.2.length ≤ 1048576 := by have := len_of_map hinvk; rw [List.length_take] at this; omega
      refine AW.skip ?_
      show AW _ _ _ _ _
      refine AW.seq ?_
      refine AW.block ?_
      refine AW.runs [] (by simp -implicitDefEqProofs only [go_sem, hvb, ht19, hbb, ht35, hx, hxa]; rfl) (by trivial) ?_
      refine AW.runs [] (by simp -implicitDefEqProofs only [go_sem, hvb, ht19, hbb, ht35, hx, hxa]; rfl) (by trivial) ?_
      have hz3 : (z.2.length + 1) * 72 ≤ 140737488355328 := by omega
      refine AW.run [] (by simp -implicitDefEqProofs only [go_sem, hvb, ht19, hbb, ht35, hx, hxa, hz3]; rfl) (by trivial) ?_
      show AW _ _ _ _ _
      refine AW.run [] (by simp -implicitDefEqProofs only [go_sem, hvb, ht19, hbb, ht35, hx, hxa, hz3]; rfl) (by trivial) ?_
      exact ⟨hltk, ((g2 + 4), z.2 ++ [[.int .u8 x.op, .int .i64 x.dst, .int .i64 x.a, .int .i64 x.b, .int .i64 x.var, .int .i64 x.num, .own (g2 + 2) 1 (x.args.map intRow)]]), by rw [rows_snoc _ _ _ hinvk, take_map _ hx]; simp [AV.frz, insRow, intRow], ⟨by simp -implicitDefEqProofs only [go_sem], by simp -implicitDefEqProofs only [go_sem, hvb, ht19, hbb, ht35, hx, hxa, hz3, step_int k (Nat.lt_of_lt_of_le hltk (by omega))]; try simp [hvb, ht19, hbb, ht35, hx, hxa, hz3, step_int k (Nat.lt_of_lt_of_le hltk (by omega))]⟩⟩
    · have hke : b.ins.length ≤ k := ge_dec ht35
      rw [List.take_of_length_le hke] at hinvk
      refine AW.exit ?_
      show AW _ _ _ _ _
      have hy3 : (y.2.length + 1) * 56 ≤ 140737488355328 := by omega
      refine AW.run [] (by simp -implicitDefEqProofs only [go_sem, hvb, ht19, hbb, ht35, hy3]; rfl) (by trivial) ?_
      show AW _ _ _ _ _
      refine AW.run [] (by simp -implicitDefEqProofs only [go_sem, hvb, ht19, hbb, ht35, hy3]; rfl) (by trivial) ?_
      exact ⟨hlti, ((g2 + 1), y.2 ++ [[.own z.1 7 z.2, .int .u8 b.term.kind, .int .i64 b.term.a, .int .i64 b.term.to, .int .i64 b.term.els]]), by rw [rows_snoc _ _ _ hinvi, take_map _ hbb]; simp [AV.frz, blockRow, hinvk], ⟨by simp -implicitDefEqProofs only [go_sem], by simp -implicitDefEqProofs only [go_sem, hvb, ht19, hbb, ht35, hy3, step_int i (Nat.lt_of_lt_of_le hlti (by omega))]; try simp [hvb, ht19, hbb, ht35, hy3, step_int i (Nat.lt_of_lt_of_le hlti (by omega))]⟩⟩
  · have hie : f.blocks.length ≤ i := ge_dec ht19
    rw [List.take_of_length_le hie] at hinvi
    refine AW.exit ?_
    show AW _ _ _ _ _
    refine AW.runs [] (by simp -implicitDefEqProofs only [go_sem, hvb, ht19]; rfl) (by trivial) ?_
    exact AW.ret ⟨.inl rfl, _, (show outR Try.prog _ [.cell 2 37] = some _ from by simp -implicitDefEqProofs only [go_sem]; rfl), by simp -implicitDefEqProofs only [go_sem, frz_vars, hinvi]⟩
end Go.Proofs.Ytgoajlgkbcongaa.Vm
end
section
set_option linter.unusedVariables false
set_option linter.unusedSimpArgs false
set_option maxRecDepth 100000
set_option maxHeartbeats 4000000
namespace Go.Proofs.Ytgoajlgkbcongaa.Vm
open Go Go.RowKit Go.Proofs
theorem ins_le {f : Fn} {b : Block} (hb : b ∈ f.blocks) : b.ins.length ≤ insTo f f.blocks.length := by
  obtain ⟨i, hi⟩ := List.mem_iff_getElem?.1 hb
  have := sum_at (fun b : Block => b.ins.length) hi
  unfold insTo
  rw [List.take_of_length_le (Nat.le_refl _)]
  omega
theorem frz_fns (l : List Fn) : (l.map fnRow).map (fun r => r.map AV.frz) = l.map fnRow := by simp [fnRow, AV.frz, Function.comp_def]
attribute [go_sem] List.length_take
theorem fun18 (u : Unt) (hu : Modest u) : Fun Try.prog 18 [.agg (untRow u)] (fun r => r.frz = .agg (untRow u)) := by
  refine Fun.ok Try.func18 rfl (by rfl) 30 Try.ntmps18 (by rfl) fun hok K g0 => ?_
  simp -implicitDefEqProofs only [go_sem]
  have hpb : u.points.length * 40 ≤ 140737488355328 := by have := hu.points; omega
  refine AW.runs [] (by simp -implicitDefEqProofs only [go_sem, hpb]; rfl) (by trivial) ?_
  refine AW.runs [] (by simp -implicitDefEqProofs only [go_sem, hpb]; rfl) (by trivial) ?_
  refine AW.runs [] (by simp -implicitDefEqProofs only [go_sem, hpb]; rfl) (by trivial) ?_
  refine AW.seq ?_
  refine AW.nilOwn (1, [(0, 0)]) 6 (by simp -implicitDefEqProofs only [go_sem]) ?_
  refine AW.runs [] (by simp -implicitDefEqProofs only [go_sem, hpb]; rfl) (by trivial) ?_
  refine AW.block ?_
  refine AW.forH (X := Nat) (u.funcs.length) (fun i y => [(1, .box g0 [.own y 6 ((u.funcs.take i).map fnRow), .int .i64 u.main, .fz (u.points.map pointRow)]), (2, .box (g0 + 1) [.nil, .int .i64 0, .nil]), (3, .fz (u.funcs.map fnRow)), (4, .int .i64 i)]) (fun i y => True) 30 ⟨(g0 + 2), trivial, ⟨by simp -implicitDefEqProofs only [go_sem], by simp -implicitDefEqProofs only [go_sem, hpb, List.take_zero, List.map_nil]; try simp [hpb, List.take_zero, List.map_nil]⟩⟩ fun i y g1 hii hinvi => ?_
  refine AW.seq ?_
  refine AW.runs [] (by simp -implicitDefEqProofs only [go_sem, hpb]; rfl) (by trivial) ?_
  refine AW.if (by simp -implicitDefEqProofs only [go_sem, hpb]; rfl) (fun ht11 => ?_) (fun ht11 => ?_)
  · have hlti : i < u.funcs.length := lt_dec ht11
    obtain ⟨f, hf⟩ := get_of_lt hlti
    have hfm := List.mem_of_getElem? hf
    refine AW.skip ?_
    show AW _ _ _ _ _
    refine AW.seq ?_
    refine AW.block ?_
    have hyb : (min i u.funcs.length + 1) * 88 ≤ 140737488355328 := by have := hu.funcs; omega
    have htk : (u.funcs.take i).map fnRow ++ [[AV.str f.name, AV.int .i64 f.params, AV.bool f.result, AV.fz (f.vars.map varRow), AV.fz (f.blocks.map blockRow), AV.int .i64 f.size]] = (u.funcs.take (i + 1)).map fnRow := (take_map fnRow hf).symm
    refine AW.has (n := 30) [(1, .box g0 [.own y 6 ((u.funcs.take i).map fnRow), .int .i64 u.main, .fz (u.points.map pointRow)]), (2, .box (g0 + 1) [.nil, .int .i64 0, .nil]), (3, .fz (u.funcs.map fnRow)), (4, .int .i64 i)] (⟨by simp -implicitDefEqProofs only [go_sem], by simp -implicitDefEqProofs only [go_sem, hpb, ht11, hf, hyb, htk]; try simp [hpb, ht11, hf, hyb, htk]⟩) (fun g2 => ?_)
    refine AW.drw2 [0, 1, 2, 3, 4, 5, 6] [7, 8, 9, 10] [[], [0], [], [], [2, 3], [2, 3, 4], [2, 3, 4, 5], [2, 3, 4, 5, 6], [0, 1, 2, 3, 4, 5, 6, 7], [0, 1, 2, 3, 4, 5, 6, 7, 8], [0, 1, 2, 3, 4, 5, 6, 7, 8, 9]] [14, 15, 16, 17, 18, 19, 20] [?v0_0, ?v0_1, ?v0_2, ?v0_3, ?v0_4, ?v0_5, ?v0_6] [([(1, .box g0 [.own y 6 ((u.funcs.take i).map fnRow), .int .i64 u.main, .fz (u.points.map pointRow)]), (2, .box (g0 + 1) [.nil, .int .i64 0, .nil]), (3, .fz (u.funcs.map fnRow)), (4, .int .i64 i)], g2), ([(1, .box g0 [.own y 6 ((u.funcs.take i).map fnRow), .int .i64 u.main, .fz (u.points.map pointRow)]), (2, .box (g0 + 1) [.nil, .int .i64 0, .nil]), (3, .fz (u.funcs.map fnRow)), (4, .int .i64 i), (21, AV.own g2 6 [[AV.str f.name, AV.int .i64 f.params, AV.bool f.result, AV.fz (f.vars.map varRow), AV.fz (f.blocks.map blockRow), AV.int .i64 f.size]])], g2 + 1), ([(1, AV.box g0 [.undef, .int .i64 u.main, .fz (u.points.map pointRow)]), (2, .box (g0 + 1) [.nil, .int .i64 0, .nil]), (3, .fz (u.funcs.map fnRow)), (4, .int .i64 i), (22, AV.own (g2 + 1) 6 ((u.funcs.take (i + 1)).map fnRow))], g2 + 2), ([(1, AV.box g0 [.undef, .int .i64 u.main, .fz (u.points.map pointRow)]), (2, .box (g0 + 1) [.nil, .int .i64 0, .nil]), (3, .fz (u.funcs.map fnRow)), (4, .int .i64 i), (22, AV.own (g2 + 1) 6 ((u.funcs.take (i + 1)).map fnRow)), (23, AV.adr (1, []) g0 0 0 0)], g2 + 2), ([(1, AV.box g0 [.own (g2 + 1) 6 ((u.funcs.take (i + 1)).map fnRow), .int .i64 u.main, .fz (u.points.map pointRow)]), (2, .box (g0 + 1) [.nil, .int .i64 0, .nil]), (3, .fz (u.funcs.map fnRow)), (4, .int .i64 i)], g2 + 2)] f_mix (by decide) (by rfl) (by rfl) (by rfl) [(0, 0), (0, 1), (0, 2), (0, 3), (0, 4), (0, 5), (0, 6), (1, 0), (1, 1)] (by rfl) ?_ ?_ ?_
    rotate_left 7
    · refine fa_cons ?_ ?_
      · show HeadAt Try.prog _ ((Fr.of [(1, .box g0 [.own y 6 ((u.funcs.take i).map fnRow), .int .i64 u.main, .fz (u.points.map pointRow)]), (2, .box (g0 + 1) [.nil, .int .i64 0, .nil]), (3, .fz (u.funcs.map fnRow)), (4, .int .i64 i)] (g2) 30).see [14, 15, 16, 17, 18, 19, 20] [?v0_0, ?v0_1, ?v0_2, ?v0_3, ?v0_4, ?v0_5, ?v0_6] []) 0 ?v0_0
        exact headX rfl rfl (by simp -implicitDefEqProofs only [go_sem, hpb, ht11, hf, hyb, htk]; rfl)
      refine fa_cons ?_ ?_
      · show HeadAt Try.prog _ ((Fr.of [(1, .box g0 [.own y 6 ((u.funcs.take i).map fnRow), .int .i64 u.main, .fz (u.points.map pointRow)]), (2, .box (g0 + 1) [.nil, .int .i64 0, .nil]), (3, .fz (u.funcs.map fnRow)), (4, .int .i64 i)] (g2) 30).see [14, 15, 16, 17, 18, 19, 20] [?v0_0, ?v0_1, ?v0_2, ?v0_3, ?v0_4, ?v0_5, ?v0_6] [0]) 1 ?v0_1
        exact headX rfl rfl (by simp -implicitDefEqProofs only [go_sem, hpb, ht11, hf, hyb, htk]; rfl)
      refine fa_cons ?_ ?_
      · show HeadAt Try.prog _ ((Fr.of [(1, .box g0 [.own y 6 ((u.funcs.take i).map fnRow), .int .i64 u.main, .fz (u.points.map pointRow)]), (2, .box (g0 + 1) [.nil, .int .i64 0, .nil]), (3, .fz (u.funcs.map fnRow)), (4, .int .i64 i)] (g2) 30).see [14, 15, 16, 17, 18, 19, 20] [?v0_0, ?v0_1, ?v0_2, ?v0_3, ?v0_4, ?v0_5, ?v0_6] []) 2 ?v0_2
        exact headX rfl rfl (by simp -implicitDefEqProofs only [go_sem, hpb, ht11, hf, hyb, htk]; rfl)
      refine fa_cons ?_ ?_
      · show HeadAt Try.prog _ ((Fr.of [(1, .box g0 [.own y 6 ((u.funcs.take i).map fnRow), .int .i64 u.main, .fz (u.points.map pointRow)]), (2, .box (g0 + 1) [.nil, .int .i64 0, .nil]), (3, .fz (u.funcs.map fnRow)), (4, .int .i64 i)] (g2) 30).see [14, 15, 16, 17, 18, 19, 20] [?v0_0, ?v0_1, ?v0_2, ?v0_3, ?v0_4, ?v0_5, ?v0_6] []) 3 ?v0_3
        exact headX rfl rfl (by simp -implicitDefEqProofs only [go_sem, hpb, ht11, hf, hyb, htk]; rfl)
      refine fa_cons ?_ ?_
      · show HeadAt Try.prog _ ((Fr.of [(1, .box g0 [.own y 6 ((u.funcs.take i).map fnRow), .int .i64 u.main, .fz (u.points.map pointRow)]), (2, .box (g0 + 1) [.nil, .int .i64 0, .nil]), (3, .fz (u.funcs.map fnRow)), (4, .int .i64 i)] (g2) 30).see [14, 15, 16, 17, 18, 19, 20] [?v0_0, ?v0_1, ?v0_2, ?v0_3, ?v0_4, ?v0_5, ?v0_6] [2, 3]) 4 ?v0_4
        exact headX rfl rfl (by simp -implicitDefEqProofs only [go_sem, hpb, ht11, hf, hyb, htk]; rfl)
      refine fa_cons ?_ ?_
      · show HeadAt Try.prog _ ((Fr.of [(1, .box g0 [.own y 6 ((u.funcs.take i).map fnRow), .int .i64 u.main, .fz (u.points.map pointRow)]), (2, .box (g0 + 1) [.nil, .int .i64 0, .nil]), (3, .fz (u.funcs.map fnRow)), (4, .int .i64 i)] (g2) 30).see [14, 15, 16, 17, 18, 19, 20] [?v0_0, ?v0_1, ?v0_2, ?v0_3, ?v0_4, ?v0_5, ?v0_6] [2, 3, 4]) 5 ?v0_5
        exact headX rfl rfl (by simp -implicitDefEqProofs only [go_sem, hpb, ht11, hf, hyb, htk]; rfl)
      refine fa_cons ?_ ?_
      · show HeadAt Try.prog _ ((Fr.of [(1, .box g0 [.own y 6 ((u.funcs.take i).map fnRow), .int .i64 u.main, .fz (u.points.map pointRow)]), (2, .box (g0 + 1) [.nil, .int .i64 0, .nil]), (3, .fz (u.funcs.map fnRow)), (4, .int .i64 i)] (g2) 30).see [14, 15, 16, 17, 18, 19, 20] [?v0_0, ?v0_1, ?v0_2, ?v0_3, ?v0_4, ?v0_5, ?v0_6] [2, 3, 4, 5]) 6 (.agg (fnRow f))
        exact headC rfl rfl rfl (by simp -implicitDefEqProofs only [go_sem, hpb, ht11, hf, hyb, htk] <;> rfl) ((fun55 f (hu.blocks f hfm) (hu.vars f hfm) (fun b hb => Nat.le_trans (ins_le hb) (hu.ins f hfm)) (hu.args f hfm)).obf)
      refine fa_cons ?_ ?_
      · show HeadAt Try.prog _ ((Fr.of [(1, .box g0 [.own y 6 ((u.funcs.take i).map fnRow), .int .i64 u.main, .fz (u.points.map pointRow)]), (2, .box (g0 + 1) [.nil, .int .i64 0, .nil]), (3, .fz (u.funcs.map fnRow)), (4, .int .i64 i), (21, AV.own g2 6 [[AV.str f.name, AV.int .i64 f.params, AV.bool f.result, AV.fz (f.vars.map varRow), AV.fz (f.blocks.map blockRow), AV.int .i64 f.size]])] (g2 + 1) 30).see [14, 15, 16, 17, 18, 19, 20] [?v0_0, ?v0_1, ?v0_2, ?v0_3, ?v0_4, ?v0_5, ?v0_6] []) 0 ?v0_0
        exact headX rfl rfl (by simp -implicitDefEqProofs only [go_sem, hpb, ht11, hf, hyb, htk])
      refine fa_cons ?_ ?_
      · show HeadAt Try.prog _ ((Fr.of [(1, .box g0 [.own y 6 ((u.funcs.take i).map fnRow), .int .i64 u.main, .fz (u.points.map pointRow)]), (2, .box (g0 + 1) [.nil, .int .i64 0, .nil]), (3, .fz (u.funcs.map fnRow)), (4, .int .i64 i), (21, AV.own g2 6 [[AV.str f.name, AV.int .i64 f.params, AV.bool f.result, AV.fz (f.vars.map varRow), AV.fz (f.blocks.map blockRow), AV.int .i64 f.size]])] (g2 + 1) 30).see [14, 15, 16, 17, 18, 19, 20] [?v0_0, ?v0_1, ?v0_2, ?v0_3, ?v0_4, ?v0_5, ?v0_6] [0]) 1 ?v0_1
        exact headX rfl rfl (by simp -implicitDefEqProofs only [go_sem, hpb, ht11, hf, hyb, htk])
      exact fa_nil
    · refine fa_cons ?_ ?_
      · show ChainAt Try.prog K _ [14, 15, 16, 17, 18, 19, 20] (Fr.of [(1, .box g0 [.own y 6 ((u.funcs.take i).map fnRow), .int .i64 u.main, .fz (u.points.map pointRow)]), (2, .box (g0 + 1) [.nil, .int .i64 0, .nil]), (3, .fz (u.funcs.map fnRow)), (4, .int .i64 i)] (g2) 30) (Fr.of [(1, .box g0 [.own y 6 ((u.funcs.take i).map fnRow), .int .i64 u.main, .fz (u.points.map pointRow)]), (2, .box (g0 + 1) [.nil, .int .i64 0, .nil]), (3, .fz (u.funcs.map fnRow)), (4, .int .i64 i), (21, AV.own g2 6 [[AV.str f.name, AV.int .i64 f.params, AV.bool f.result, AV.fz (f.vars.map varRow), AV.fz (f.blocks.map blockRow), AV.int .i64 f.size]])] (g2 + 1) 30) 7 [(2, ?v0_2), (3, ?v0_3), (4, ?v0_4), (5, ?v0_5), (6, ?v0_6)] 7
        refine chainX rfl rfl (fun xs hx hq => ?_)
        simp only [fa_c, fa_n, and_true] at hq
        refine ⟨_, by simp -implicitDefEqProofs only [go_sem, hq, hpb, ht11, hf, hyb, htk]; rfl, by simp -implicitDefEqProofs only [go_sem], by simp -implicitDefEqProofs only [go_sem], by simp -implicitDefEqProofs only [go_sem, hq, hpb, ht11, hf, hyb, htk], by simp -implicitDefEqProofs only [go_sem, fa_c, fa_n, and_true]⟩
      refine fa_cons ?_ ?_
      · show ChainAt Try.prog K _ [14, 15, 16, 17, 18, 19, 20] (Fr.of [(1, .box g0 [.own y 6 ((u.funcs.take i).map fnRow), .int .i64 u.main, .fz (u.points.map pointRow)]), (2, .box (g0 + 1) [.nil, .int .i64 0, .nil]), (3, .fz (u.funcs.map fnRow)), (4, .int .i64 i), (21, AV.own g2 6 [[AV.str f.name, AV.int .i64 f.params, AV.bool f.result, AV.fz (f.vars.map varRow), AV.fz (f.blocks.map blockRow), AV.int .i64 f.size]])] (g2 + 1) 30) (Fr.of [(1, AV.box g0 [.undef, .int .i64 u.main, .fz (u.points.map pointRow)]), (2, .box (g0 + 1) [.nil, .int .i64 0, .nil]), (3, .fz (u.funcs.map fnRow)), (4, .int .i64 i), (22, AV.own (g2 + 1) 6 ((u.funcs.take (i + 1)).map fnRow))] (g2 + 2) 30) 8 [(0, ?v0_0), (1, ?v0_1), (2, ?v0_2), (3, ?v0_3), (4, ?v0_4), (5, ?v0_5), (6, ?v0_6)] 7
        refine chainX rfl rfl (fun xs hx hq => ?_)
        simp only [fa_c, fa_n, and_true] at hq
        refine ⟨_, by simp -implicitDefEqProofs only [go_sem, hq, hpb, ht11, hf, hyb, htk]; rfl, by simp -implicitDefEqProofs only [go_sem], by simp -implicitDefEqProofs only [go_sem], by simp -implicitDefEqProofs only [go_sem, hq, hpb, ht11, hf, hyb, htk], by simp -implicitDefEqProofs only [go_sem, fa_c, fa_n, and_true]⟩
      refine fa_cons ?_ ?_
      · show ChainAt Try.prog K _ [14, 15, 16, 17, 18, 19, 20] (Fr.of [(1, AV.box g0 [.undef, .int .i64 u.main, .fz (u.points.map pointRow)]), (2, .box (g0 + 1) [.nil, .int .i64 0, .nil]), (3, .fz (u.funcs.map fnRow)), (4, .int .i64 i), (22, AV.own (g2 + 1) 6 ((u.funcs.take (i + 1)).map fnRow))] (g2 + 2) 30) (Fr.of [(1, AV.box g0 [.undef, .int .i64 u.main, .fz (u.points.map pointRow)]), (2, .box (g0 + 1) [.nil, .int .i64 0, .nil]), (3, .fz (u.funcs.map fnRow)), (4, .int .i64 i), (22, AV.own (g2 + 1) 6 ((u.funcs.take (i + 1)).map fnRow)), (23, AV.adr (1, []) g0 0 0 0)] (g2 + 2) 30) 9 [(0, ?v0_0), (1, ?v0_1), (2, ?v0_2), (3, ?v0_3), (4, ?v0_4), (5, ?v0_5), (6, ?v0_6)] 7
        refine chainX rfl rfl (fun xs hx hq => ?_)
        simp only [fa_c, fa_n, and_true] at hq
        refine ⟨_, by simp -implicitDefEqProofs only [go_sem, hq, hpb, ht11, hf, hyb, htk]; rfl, by simp -implicitDefEqProofs only [go_sem], by simp -implicitDefEqProofs only [go_sem], by simp -implicitDefEqProofs only [go_sem, hq, hpb, ht11, hf, hyb, htk], by simp -implicitDefEqProofs only [go_sem, fa_c, fa_n, and_true]⟩
      refine fa_cons ?_ ?_
      · show ChainAt Try.prog K _ [14, 15, 16, 17, 18, 19, 20] (Fr.of [(1, AV.box g0 [.undef, .int .i64 u.main, .fz (u.points.map pointRow)]), (2, .box (g0 + 1) [.nil, .int .i64 0, .nil]), (3, .fz (u.funcs.map fnRow)), (4, .int .i64 i), (22, AV.own (g2 + 1) 6 ((u.funcs.take (i + 1)).map fnRow)), (23, AV.adr (1, []) g0 0 0 0)] (g2 + 2) 30) (Fr.of [(1, AV.box g0 [.own (g2 + 1) 6 ((u.funcs.take (i + 1)).map fnRow), .int .i64 u.main, .fz (u.points.map pointRow)]), (2, .box (g0 + 1) [.nil, .int .i64 0, .nil]), (3, .fz (u.funcs.map fnRow)), (4, .int .i64 i)] (g2 + 2) 30) 10 [(0, ?v0_0), (1, ?v0_1), (2, ?v0_2), (3, ?v0_3), (4, ?v0_4), (5, ?v0_5), (6, ?v0_6)] 7
        refine chainX rfl rfl (fun xs hx hq => ?_)
        simp only [fa_c, fa_n, and_true] at hq
        refine ⟨_, by simp -implicitDefEqProofs only [go_sem, hq, hpb, ht11, hf, hyb, htk]; rfl, by simp -implicitDefEqProofs only [go_sem], by simp -implicitDefEqProofs only [go_sem], by simp -implicitDefEqProofs only [go_sem, hq, hpb, ht11, hf, hyb, htk], by simp -implicitDefEqProofs only [go_sem, fa_c, fa_n, and_true]⟩
      exact fa_nil
    show AW _ _ _ _ _
    refine AW.run [] (by simp -implicitDefEqProofs only [go_sem, hpb, ht11, hf, hyb, htk]; rfl) (by trivial) ?_
    exact ⟨hlti, (g2 + 1), trivial, ⟨by simp -implicitDefEqProofs only [go_sem], by simp -implicitDefEqProofs only [go_sem, hpb, ht11, hf, hyb, htk, step_int i (Nat.lt_of_lt_of_le hlti (by have := hu.funcs; omega))]; try simp [hpb, ht11, hf, hyb, htk, step_int i (Nat.lt_of_lt_of_le hlti (by have := hu.funcs; omega))]⟩⟩
  · have hie : u.funcs.length ≤ i := ge_dec ht11
    have hta : u.funcs.take i = u.funcs := List.take_of_length_le hie
    refine AW.exit ?_
    show AW _ _ _ _ _
    refine AW.runs [] (by simp -implicitDefEqProofs only [go_sem, hpb, ht11, hta]; rfl) (by trivial) ?_
    refine AW.runs [] (by simp -implicitDefEqProofs only [go_sem, hpb, ht11, hta]; rfl) (by trivial) ?_
    exact AW.ret ⟨.inl rfl, _, (show outR Try.prog _ [.cell 2 25] = some _ from by simp -implicitDefEqProofs only [go_sem]; rfl), by simp -implicitDefEqProofs only [go_sem, frz_pts, frz_fns, hta]⟩
end Go.Proofs.Ytgoajlgkbcongaa.Vm
end
section
set_option linter.unusedVariables false
set_option linter.unusedSimpArgs false
set_option maxRecDepth 100000
set_option maxHeartbeats 4000000
namespace Go.Proofs.Ytgoajlgkbcongaa.Vm
open Go Go.RowKit Go.Proofs
attribute [go_sem] bne_self_eq_false beq_self_eq_true Bool.not_true Bool.not_false Bool.and_self
attribute [go_sem] Try.underlying57 Try.underlying42 Try.underlying5 Try.underlying3 Try.underlying9 eqFit fitTy
theorem ob80 (l : List Int) : Ob.ok Try.prog ⟨80, [.fz (l.map intRow), .fz (l.map intRow)], .bool true⟩ := by have h := (fun80 l l).obb; simpa using h
theorem ob81 (l : List ByteArray) : Ob.ok Try.prog ⟨81, [.fz (l.map strRow), .fz (l.map strRow)], .bool true⟩ := by have h := (fun81 l l).obb; simpa using h
theorem ob37 (x : Ins) : Ob.ok Try.prog ⟨37, [.agg (insRow x), .agg (insRow x)], .bool true⟩ := by have h := (fun37 x x).obb; simpa [sameIns] using h
theorem fun57 (l : List Point) (hl : l.length ≤ 1048576) : Fun Try.prog 57 [.fz (l.map pointRow), .fz (l.map pointRow)] (fun r => r = .bool true) := by
  refine Fun.ok Try.func57 rfl (by rfl) 55 Try.ntmps57 (by rfl) fun hok K g0 => ?_
  simp -implicitDefEqProofs only [go_sem]
  refine AW.runs [] (by simp -implicitDefEqProofs only [go_sem]; rfl) (by trivial) ?_
  refine AW.seq ?_
  refine AW.runs [] (by simp -implicitDefEqProofs only [go_sem]; rfl) (by trivial) ?_
  refine AW.if (by simp -implicitDefEqProofs only [go_sem]; rfl) (fun h => absurd h (by simp)) (fun _ => ?_)
  refine AW.skip ?_
  show AW _ _ _ _ _
  refine AW.seq ?_
  refine AW.runs [] (by simp -implicitDefEqProofs only [go_sem]; rfl) (by trivial) ?_
  refine AW.block ?_
  refine AW.forH (X := Unit) (l.length) (fun i _ => [(0, .fz (l.map pointRow)), (1, .fz (l.map pointRow)), (5, .int .i64 i)]) (fun i _ => True) 55 ⟨(), trivial, ⟨by simp -implicitDefEqProofs only [go_sem], by simp -implicitDefEqProofs only [go_sem]; try simp []⟩⟩ fun i _ g1 hii hinvi => ?_
  refine AW.seq ?_
  refine AW.runs [] (by simp -implicitDefEqProofs only [go_sem]; rfl) (by trivial) ?_
  refine AW.if (by simp -implicitDefEqProofs only [go_sem]; rfl) (fun ht14 => ?_) (fun ht14 => ?_)
  · have hlti : i < l.length := lt_dec ht14
    obtain ⟨p, hp⟩ := get_of_lt hlti
    refine AW.skip ?_
    show AW _ _ _ _ _
    refine AW.seq ?_
    refine AW.block ?_
    refine AW.has (n := 55) [(0, .fz (l.map pointRow)), (1, .fz (l.map pointRow)), (5, .int .i64 i)] (⟨by simp -implicitDefEqProofs only [go_sem], by simp -implicitDefEqProofs only [go_sem, ht14, hp]; try simp [ht14, hp]⟩) (fun g2 => ?_)
    refine AW.seq ?_
    refine AW.drw 35 [[], [], [0, 1], [0, 1, 2], [0, 1, 2, 3], [], [], [5, 6], [5, 6, 7], [5, 6, 7, 8], [0, 1, 2, 3, 4, 5, 6, 7, 8, 9], [0, 1, 2, 3, 4, 5, 6, 7, 8, 9, 10], [0, 1, 2, 3, 4, 5, 6, 7, 8, 9, 10, 11], [0, 1, 2, 3, 4, 5, 6, 7, 8, 9, 10, 11], [0, 1, 2, 3, 4, 5, 6, 7, 8, 9, 10, 11, 12, 13], [0, 1, 2, 3, 4, 5, 6, 7, 8, 9, 10, 11, 12, 13, 14], [0, 1, 2, 3, 4, 5, 6, 7, 8, 9, 10, 11, 12, 13, 14, 15], [0, 1, 2, 3, 4, 5, 6, 7, 8, 9, 10, 11], [0, 1, 2, 3, 4, 5, 6, 7, 8, 9, 10, 11], [0, 1, 2, 3, 4, 5, 6, 7, 8, 9, 10, 11, 17, 18], [0, 1, 2, 3, 4, 5, 6, 7, 8, 9, 10, 11, 17, 18, 19], [0, 1, 2, 3, 4, 5, 6, 7, 8, 9, 10, 11, 17, 18, 19, 20], [0, 1, 2, 3, 4, 5, 6, 7, 8, 9, 10, 11, 12, 13, 14, 15, 16, 17, 18, 19, 20, 21], [0, 1, 2, 3, 4, 5, 6, 7, 8, 9, 10, 11, 12, 13, 14, 15, 16, 17, 18, 19, 20, 21, 22], [0, 1, 2, 3, 4, 5, 6, 7, 8, 9, 10, 11, 12, 13, 14, 15, 16, 17, 18, 19, 20, 21, 22, 23], [0, 1, 2, 3, 4, 5, 6, 7, 8, 9, 10, 11, 12, 13, 14, 15, 16, 17, 18, 19, 20, 21, 22, 23, 24], [0, 1, 2, 3, 4, 5, 6, 7, 8, 9, 10, 11, 12, 13, 14, 15, 16, 17, 18, 19, 20, 21, 22, 23, 24], [0, 1, 2, 3, 4, 5, 6, 7, 8, 9, 10, 11, 12, 13, 14, 15, 16, 17, 18, 19, 20, 21, 22, 23, 24, 25, 26], [0, 1, 2, 3, 4, 5, 6, 7, 8, 9, 10, 11, 12, 13, 14, 15, 16, 17, 18, 19, 20, 21, 22, 23, 24, 25, 26, 27], [0, 1, 2, 3, 4, 5, 6, 7, 8, 9, 10, 11, 12, 13, 14, 15, 16, 17, 18, 19, 20, 21, 22, 23, 24, 25, 26, 27, 28], [0, 1, 2, 3, 4, 5, 6, 7, 8, 9, 10, 11, 12, 13, 14, 15, 16, 17, 18, 19, 20, 21, 22, 23, 24], [0, 1, 2, 3, 4, 5, 6, 7, 8, 9, 10, 11, 12, 13, 14, 15, 16, 17, 18, 19, 20, 21, 22, 23, 24], [0, 1, 2, 3, 4, 5, 6, 7, 8, 9, 10, 11, 12, 13, 14, 15, 16, 17, 18, 19, 20, 21, 22, 23, 24, 30, 31], [0, 1, 2, 3, 4, 5, 6, 7, 8, 9, 10, 11, 12, 13, 14, 15, 16, 17, 18, 19, 20, 21, 22, 23, 24, 30, 31, 32], [0, 1, 2, 3, 4, 5, 6, 7, 8, 9, 10, 11, 12, 13, 14, 15, 16, 17, 18, 19, 20, 21, 22, 23, 24, 30, 31, 32, 33], [0, 1, 2, 3, 4, 5, 6, 7, 8, 9, 10, 11, 12, 13, 14, 15, 16, 17, 18, 19, 20, 21, 22, 23, 24, 25, 26, 27, 28, 29, 30, 31, 32, 33, 34], [0, 1, 2, 3, 4, 5, 6, 7, 8, 9, 10, 11, 12, 13, 14, 15, 16, 17, 18, 19, 20, 21, 22, 23, 24, 25, 26, 27, 28, 29, 30, 31, 32, 33, 34, 35], [0, 1, 2, 3, 4, 5, 6, 7, 8, 9, 10, 11, 12, 13, 14, 15, 16, 17, 18, 19, 20, 21, 22, 23, 24, 25, 26, 27, 28, 29, 30, 31, 32, 33, 34, 35, 36]] [17, 18, 19, 20, 21, 22, 23, 24, 25, 26, 27, 28, 29, 30, 31, 32, 33, 34, 35, 36, 37, 38, 39, 40, 41, 42, 43, 44, 45, 46, 47, 48, 49, 50, 51] [] [.bool true] f_mix (by decide) (by rfl) (by rfl) rfl rfl (by simp -implicitDefEqProofs only [go_sem, ht14, hp]; rfl) (by trivial) (by simp -implicitDefEqProofs only [go_sem, ht14, hp]; rfl) (ob1 (ob80 p.scope)) ?_
    show AW _ _ _ _ _
    refine AW.if (by simp -implicitDefEqProofs only [go_sem, ht14, hp]; rfl) (fun h => absurd h (by simp)) (fun _ => ?_)
    refine AW.skip ?_
    show AW _ _ _ _ _
    refine AW.run [] (by simp -implicitDefEqProofs only [go_sem, ht14, hp]; rfl) (by trivial) ?_
    exact ⟨hlti, (), trivial, ⟨by simp -implicitDefEqProofs only [go_sem], by simp -implicitDefEqProofs only [go_sem, ht14, hp, step_int i (Nat.lt_of_lt_of_le hlti (by omega))]; try simp [ht14, hp, step_int i (Nat.lt_of_lt_of_le hlti (by omega))]⟩⟩
  · refine AW.exit ?_
    show AW _ _ _ _ _
    refine AW.runs [] (by simp -implicitDefEqProofs only [go_sem, ht14]; rfl) (by trivial) ?_
    exact AW.ret ⟨.inl rfl, _, rfl, by simp -implicitDefEqProofs only [go_sem]⟩
theorem fun59 (l : List Var) (hl : l.length ≤ 1048576) : Fun Try.prog 59 [.fz (l.map varRow), .fz (l.map varRow)] (fun r => r = .bool true) := by
  refine Fun.ok Try.func59 rfl (by rfl) 68 Try.ntmps59 (by rfl) fun hok K g0 => ?_
  simp -implicitDefEqProofs only [go_sem]
  refine AW.runs [] (by simp -implicitDefEqProofs only [go_sem]; rfl) (by trivial) ?_
  refine AW.seq ?_
  refine AW.runs [] (by simp -implicitDefEqProofs only [go_sem]; rfl) (by trivial) ?_
  refine AW.if (by simp -implicitDefEqProofs only [go_sem]; rfl) (fun h => absurd h (by simp)) (fun _ => ?_)
  refine AW.skip ?_
  show AW _ _ _ _ _
  refine AW.seq ?_
  refine AW.runs [] (by simp -implicitDefEqProofs only [go_sem]; rfl) (by trivial) ?_
  refine AW.block ?_
  refine AW.forH (X := Unit) (l.length) (fun i _ => [(0, .fz (l.map varRow)), (1, .fz (l.map varRow)), (5, .int .i64 i)]) (fun i _ => True) 68 ⟨(), trivial, ⟨by simp -implicitDefEqProofs only [go_sem], by simp -implicitDefEqProofs only [go_sem]; try simp []⟩⟩ fun i _ g1 hii hinvi => ?_
  refine AW.seq ?_
  refine AW.runs [] (by simp -implicitDefEqProofs only [go_sem]; rfl) (by trivial) ?_
  refine AW.if (by simp -implicitDefEqProofs only [go_sem]; rfl) (fun ht14 => ?_) (fun ht14 => ?_)
  · have hlti : i < l.length := lt_dec ht14
    obtain ⟨p, hp⟩ := get_of_lt hlti
    refine AW.skip ?_
    show AW _ _ _ _ _
    refine AW.seq ?_
    refine AW.block ?_
    refine AW.has (n := 68) [(0, .fz (l.map varRow)), (1, .fz (l.map varRow)), (5, .int .i64 i)] (⟨by simp -implicitDefEqProofs only [go_sem], by simp -implicitDefEqProofs only [go_sem, ht14, hp]; try simp [ht14, hp]⟩) (fun g2 => ?_)
    refine AW.seq ?_
    refine AW.drw 48 [[], [], [0, 1], [0, 1, 2], [0, 1, 2, 3], [], [], [5, 6], [5, 6, 7], [5, 6, 7, 8], [0, 1, 2, 3, 4, 5, 6, 7, 8, 9], [0, 1, 2, 3, 4, 5, 6, 7, 8, 9, 10], [0, 1, 2, 3, 4, 5, 6, 7, 8, 9, 10, 11], [0, 1, 2, 3, 4, 5, 6, 7, 8, 9, 10, 11], [0, 1, 2, 3, 4, 5, 6, 7, 8, 9, 10, 11, 12, 13], [0, 1, 2, 3, 4, 5, 6, 7, 8, 9, 10, 11, 12, 13, 14], [0, 1, 2, 3, 4, 5, 6, 7, 8, 9, 10, 11, 12, 13, 14, 15], [0, 1, 2, 3, 4, 5, 6, 7, 8, 9, 10, 11], [0, 1, 2, 3, 4, 5, 6, 7, 8, 9, 10, 11], [0, 1, 2, 3, 4, 5, 6, 7, 8, 9, 10, 11, 17, 18], [0, 1, 2, 3, 4, 5, 6, 7, 8, 9, 10, 11, 17, 18, 19], [0, 1, 2, 3, 4, 5, 6, 7, 8, 9, 10, 11, 17, 18, 19, 20], [0, 1, 2, 3, 4, 5, 6, 7, 8, 9, 10, 11, 12, 13, 14, 15, 16, 17, 18, 19, 20, 21], [0, 1, 2, 3, 4, 5, 6, 7, 8, 9, 10, 11, 12, 13, 14, 15, 16, 17, 18, 19, 20, 21, 22], [0, 1, 2, 3, 4, 5, 6, 7, 8, 9, 10, 11, 12, 13, 14, 15, 16, 17, 18, 19, 20, 21, 22, 23], [0, 1, 2, 3, 4, 5, 6, 7, 8, 9, 10, 11, 12, 13, 14, 15, 16, 17, 18, 19, 20, 21, 22, 23, 24], [0, 1, 2, 3, 4, 5, 6, 7, 8, 9, 10, 11, 12, 13, 14, 15, 16, 17, 18, 19, 20, 21, 22, 23, 24], [0, 1, 2, 3, 4, 5, 6, 7, 8, 9, 10, 11, 12, 13, 14, 15, 16, 17, 18, 19, 20, 21, 22, 23, 24, 25, 26], [0, 1, 2, 3, 4, 5, 6, 7, 8, 9, 10, 11, 12, 13, 14, 15, 16, 17, 18, 19, 20, 21, 22, 23, 24, 25, 26, 27], [0, 1, 2, 3, 4, 5, 6, 7, 8, 9, 10, 11, 12, 13, 14, 15, 16, 17, 18, 19, 20, 21, 22, 23, 24, 25, 26, 27, 28], [0, 1, 2, 3, 4, 5, 6, 7, 8, 9, 10, 11, 12, 13, 14, 15, 16, 17, 18, 19, 20, 21, 22, 23, 24], [0, 1, 2, 3, 4, 5, 6, 7, 8, 9, 10, 11, 12, 13, 14, 15, 16, 17, 18, 19, 20, 21, 22, 23, 24], [0, 1, 2, 3, 4, 5, 6, 7, 8, 9, 10, 11, 12, 13, 14, 15, 16, 17, 18, 19, 20, 21, 22, 23, 24, 30, 31], [0, 1, 2, 3, 4, 5, 6, 7, 8, 9, 10, 11, 12, 13, 14, 15, 16, 17, 18, 19, 20, 21, 22, 23, 24, 30, 31, 32], [0, 1, 2, 3, 4, 5, 6, 7, 8, 9, 10, 11, 12, 13, 14, 15, 16, 17, 18, 19, 20, 21, 22, 23, 24, 30, 31, 32, 33], [0, 1, 2, 3, 4, 5, 6, 7, 8, 9, 10, 11, 12, 13, 14, 15, 16, 17, 18, 19, 20, 21, 22, 23, 24, 25, 26, 27, 28, 29, 30, 31, 32, 33, 34], [0, 1, 2, 3, 4, 5, 6, 7, 8, 9, 10, 11, 12, 13, 14, 15, 16, 17, 18, 19, 20, 21, 22, 23, 24, 25, 26, 27, 28, 29, 30, 31, 32, 33, 34, 35], [0, 1, 2, 3, 4, 5, 6, 7, 8, 9, 10, 11, 12, 13, 14, 15, 16, 17, 18, 19, 20, 21, 22, 23, 24, 25, 26, 27, 28, 29, 30, 31, 32, 33, 34, 35, 36], [0, 1, 2, 3, 4, 5, 6, 7, 8, 9, 10, 11, 12, 13, 14, 15, 16, 17, 18, 19, 20, 21, 22, 23, 24, 25, 26, 27, 28, 29, 30, 31, 32, 33, 34, 35, 36, 37], [0, 1, 2, 3, 4, 5, 6, 7, 8, 9, 10, 11, 12, 13, 14, 15, 16, 17, 18, 19, 20, 21, 22, 23, 24, 25, 26, 27, 28, 29, 30, 31, 32, 33, 34, 35, 36, 37], [0, 1, 2, 3, 4, 5, 6, 7, 8, 9, 10, 11, 12, 13, 14, 15, 16, 17, 18, 19, 20, 21, 22, 23, 24, 25, 26, 27, 28, 29, 30, 31, 32, 33, 34, 35, 36, 37, 38, 39], [0, 1, 2, 3, 4, 5, 6, 7, 8, 9, 10, 11, 12, 13, 14, 15, 16, 17, 18, 19, 20, 21, 22, 23, 24, 25, 26, 27, 28, 29, 30, 31, 32, 33, 34, 35, 36, 37, 38, 39, 40], [0, 1, 2, 3, 4, 5, 6, 7, 8, 9, 10, 11, 12, 13, 14, 15, 16, 17, 18, 19, 20, 21, 22, 23, 24, 25, 26, 27, 28, 29, 30, 31, 32, 33, 34, 35, 36, 37, 38, 39, 40, 41], [0, 1, 2, 3, 4, 5, 6, 7, 8, 9, 10, 11, 12, 13, 14, 15, 16, 17, 18, 19, 20, 21, 22, 23, 24, 25, 26, 27, 28, 29, 30, 31, 32, 33, 34, 35, 36, 37], [0, 1, 2, 3, 4, 5, 6, 7, 8, 9, 10, 11, 12, 13, 14, 15, 16, 17, 18, 19, 20, 21, 22, 23, 24, 25, 26, 27, 28, 29, 30, 31, 32, 33, 34, 35, 36, 37], [0, 1, 2, 3, 4, 5, 6, 7, 8, 9, 10, 11, 12, 13, 14, 15, 16, 17, 18, 19, 20, 21, 22, 23, 24, 25, 26, 27, 28, 29, 30, 31, 32, 33, 34, 35, 36, 37, 43, 44], [0, 1, 2, 3, 4, 5, 6, 7, 8, 9, 10, 11, 12, 13, 14, 15, 16, 17, 18, 19, 20, 21, 22, 23, 24, 25, 26, 27, 28, 29, 30, 31, 32, 33, 34, 35, 36, 37, 43, 44, 45], [0, 1, 2, 3, 4, 5, 6, 7, 8, 9, 10, 11, 12, 13, 14, 15, 16, 17, 18, 19, 20, 21, 22, 23, 24, 25, 26, 27, 28, 29, 30, 31, 32, 33, 34, 35, 36, 37, 43, 44, 45, 46], [0, 1, 2, 3, 4, 5, 6, 7, 8, 9, 10, 11, 12, 13, 14, 15, 16, 17, 18, 19, 20, 21, 22, 23, 24, 25, 26, 27, 28, 29, 30, 31, 32, 33, 34, 35, 36, 37, 38, 39, 40, 41, 42, 43, 44, 45, 46, 47], [0, 1, 2, 3, 4, 5, 6, 7, 8, 9, 10, 11, 12, 13, 14, 15, 16, 17, 18, 19, 20, 21, 22, 23, 24, 25, 26, 27, 28, 29, 30, 31, 32, 33, 34, 35, 36, 37, 38, 39, 40, 41, 42, 43, 44, 45, 46, 47, 48], [0, 1, 2, 3, 4, 5, 6, 7, 8, 9, 10, 11, 12, 13, 14, 15, 16, 17, 18, 19, 20, 21, 22, 23, 24, 25, 26, 27, 28, 29, 30, 31, 32, 33, 34, 35, 36, 37, 38, 39, 40, 41, 42, 43, 44, 45, 46, 47, 48, 49]] [17, 18, 19, 20, 21, 22, 23, 24, 25, 26, 27, 28, 29, 30, 31, 32, 33, 34, 35, 36, 37, 38, 39, 40, 41, 42, 43, 44, 45, 46, 47, 48, 49, 50, 51, 52, 53, 54, 55, 56, 57, 58, 59, 60, 61, 62, 63, 64] [] [.bool true] f_mix (by decide) (by rfl) (by rfl) rfl rfl (by simp -implicitDefEqProofs only [go_sem, ht14, hp]; rfl) (by trivial) (by simp -implicitDefEqProofs only [go_sem, ht14, hp]; rfl) (ob1 (ob81 p.fields)) ?_
    show AW _ _ _ _ _
    refine AW.if (by simp -implicitDefEqProofs only [go_sem, ht14, hp]; rfl) (fun h => absurd h (by simp)) (fun _ => ?_)
    refine AW.skip ?_
    show AW _ _ _ _ _
    refine AW.run [] (by simp -implicitDefEqProofs only [go_sem, ht14, hp]; rfl) (by trivial) ?_
    exact ⟨hlti, (), trivial, ⟨by simp -implicitDefEqProofs only [go_sem], by simp -implicitDefEqProofs only [go_sem, ht14, hp, step_int i (Nat.lt_of_lt_of_le hlti (by omega))]; try simp [ht14, hp, step_int i (Nat.lt_of_lt_of_le hlti (by omega))]⟩⟩
  · refine AW.exit ?_
    show AW _ _ _ _ _
    refine AW.runs [] (by simp -implicitDefEqProofs only [go_sem, ht14]; rfl) (by trivial) ?_
    exact AW.ret ⟨.inl rfl, _, rfl, by simp -implicitDefEqProofs only [go_sem]⟩
theorem fun27 (l : List Ins) (hl : l.length ≤ 1048576) : Fun Try.prog 27 [.fz (l.map insRow), .fz (l.map insRow)] (fun r => r = .bool true) := by
  refine Fun.ok Try.func27 rfl (by rfl) 27 Try.ntmps27 (by rfl) fun hok K g0 => ?_
  simp -implicitDefEqProofs only [go_sem]
  refine AW.runs [] (by simp -implicitDefEqProofs only [go_sem]; rfl) (by trivial) ?_
  refine AW.seq ?_
  refine AW.runs [] (by simp -implicitDefEqProofs only [go_sem]; rfl) (by trivial) ?_
  refine AW.if (by simp -implicitDefEqProofs only [go_sem]; rfl) (fun h => absurd h (by simp)) (fun _ => ?_)
  refine AW.skip ?_
  show AW _ _ _ _ _
  refine AW.seq ?_
  refine AW.runs [] (by simp -implicitDefEqProofs only [go_sem]; rfl) (by trivial) ?_
  refine AW.block ?_
  refine AW.forH (X := Unit) (l.length) (fun i _ => [(0, .fz (l.map insRow)), (1, .fz (l.map insRow)), (5, .int .i64 i)]) (fun i _ => True) 27 ⟨(), trivial, ⟨by simp -implicitDefEqProofs only [go_sem], by simp -implicitDefEqProofs only [go_sem]; try simp []⟩⟩ fun i _ g1 hii hinvi => ?_
  refine AW.seq ?_
  refine AW.runs [] (by simp -implicitDefEqProofs only [go_sem]; rfl) (by trivial) ?_
  refine AW.if (by simp -implicitDefEqProofs only [go_sem]; rfl) (fun ht14 => ?_) (fun ht14 => ?_)
  · have hlti : i < l.length := lt_dec ht14
    obtain ⟨p, hp⟩ := get_of_lt hlti
    refine AW.skip ?_
    show AW _ _ _ _ _
    refine AW.seq ?_
    refine AW.block ?_
    refine AW.has (n := 27) [(0, .fz (l.map insRow)), (1, .fz (l.map insRow)), (5, .int .i64 i)] (⟨by simp -implicitDefEqProofs only [go_sem], by simp -implicitDefEqProofs only [go_sem, ht14, hp]; try simp [ht14, hp]⟩) (fun g2 => ?_)
    refine AW.seq ?_
    refine AW.drw 8 [[], [], [0, 1], [0, 1, 2], [], [], [4, 5], [4, 5, 6], [0, 1, 2, 3, 4, 5, 6, 7], [0, 1, 2, 3, 4, 5, 6, 7, 8]] [17, 18, 19, 20, 21, 22, 23, 24] [] [.bool true] f_mix (by decide) (by rfl) (by rfl) rfl rfl (by simp -implicitDefEqProofs only [go_sem, ht14, hp]; rfl) (by trivial) (by simp -implicitDefEqProofs only [go_sem, ht14, hp]; rfl) (ob1 (ob37 p)) ?_
    show AW _ _ _ _ _
    refine AW.if (by simp -implicitDefEqProofs only [go_sem, ht14, hp]; rfl) (fun h => absurd h (by simp)) (fun _ => ?_)
    refine AW.skip ?_
    show AW _ _ _ _ _
    refine AW.run [] (by simp -implicitDefEqProofs only [go_sem, ht14, hp]; rfl) (by trivial) ?_
    exact ⟨hlti, (), trivial, ⟨by simp -implicitDefEqProofs only [go_sem], by simp -implicitDefEqProofs only [go_sem, ht14, hp, step_int i (Nat.lt_of_lt_of_le hlti (by omega))]; try simp [ht14, hp, step_int i (Nat.lt_of_lt_of_le hlti (by omega))]⟩⟩
  · refine AW.exit ?_
    show AW _ _ _ _ _
    refine AW.runs [] (by simp -implicitDefEqProofs only [go_sem, ht14]; rfl) (by trivial) ?_
    exact AW.ret ⟨.inl rfl, _, rfl, by simp -implicitDefEqProofs only [go_sem]⟩
theorem fun58 (f : Fn) (hb : f.blocks.length ≤ 1048576) (hv : f.vars.length ≤ 1048576) (hi : ∀ b ∈ f.blocks, b.ins.length ≤ 1048576) : Fun Try.prog 58 [.agg (fnRow f), .agg (fnRow f)] (fun r => r = .bool true) := by
  refine Fun.ok Try.func58 rfl (by rfl) 102 Try.ntmps58 (by rfl) fun hok K g0 => ?_
  simp -implicitDefEqProofs only [go_sem]
  refine AW.runs [] (by simp -implicitDefEqProofs only [go_sem]; rfl) (by trivial) ?_
  refine AW.seq ?_
  refine AW.runs [.bool true] (by simp -implicitDefEqProofs only [go_sem]; rfl) (ob1 ((fun59 f.vars hv).obb)) ?_
  refine AW.if (by simp -implicitDefEqProofs only [go_sem]; rfl) (fun h => absurd h (by simp)) (fun _ => ?_)
  refine AW.skip ?_
  show AW _ _ _ _ _
  refine AW.seq ?_
  refine AW.runs [] (by simp -implicitDefEqProofs only [go_sem]; rfl) (by trivial) ?_
  refine AW.block ?_
  refine AW.forH (X := Unit) (f.blocks.length) (fun i _ => [(2, .box g0 (fnRow f)), (3, .box (g0 + 1) (fnRow f)), (5, .int .i64 i)]) (fun i _ => True) 102 ⟨(), trivial, ⟨by simp -implicitDefEqProofs only [go_sem], by simp -implicitDefEqProofs only [go_sem]; try simp []⟩⟩ fun i _ g1 hii hinvi => ?_
  refine AW.seq ?_
  refine AW.runs [] (by simp -implicitDefEqProofs only [go_sem]; rfl) (by trivial) ?_
  refine AW.if (by simp -implicitDefEqProofs only [go_sem]; rfl) (fun ht56 => ?_) (fun ht56 => ?_)
  · have hlti : i < f.blocks.length := lt_dec ht56
    obtain ⟨b, hbb⟩ := get_of_lt hlti
    have hil := hi b (List.mem_of_getElem? hbb)
    refine AW.skip ?_
    show AW _ _ _ _ _
    refine AW.seq ?_
    refine AW.block ?_
    refine AW.runs [] (by simp -implicitDefEqProofs only [go_sem, ht56, hbb]; rfl) (by trivial) ?_
    refine AW.runs [] (by simp -implicitDefEqProofs only [go_sem, ht56, hbb]; rfl) (by trivial) ?_
    refine AW.seq ?_
    refine AW.runs [] (by simp -implicitDefEqProofs only [go_sem, ht56, hbb]; rfl) (by trivial) ?_
    refine AW.if (by simp -implicitDefEqProofs only [go_sem, ht56, hbb]; rfl) (fun h => absurd h (by simp)) (fun _ => ?_)
    refine AW.skip ?_
    show AW _ _ _ _ _
    refine AW.runs [] (by simp -implicitDefEqProofs only [go_sem, ht56, hbb]; rfl) (by trivial) ?_
    refine AW.block ?_
    refine AW.forH (X := Unit) (b.ins.length) (fun k _ => [(2, .box g0 (fnRow f)), (3, .box (g0 + 1) (fnRow f)), (5, .int .i64 i), (6, .box g1 (blockRow b)), (7, .box (g1 + 1) (blockRow b)), (8, .int .i64 k)]) (fun k _ => True) 102 ⟨(), trivial, ⟨by simp -implicitDefEqProofs only [go_sem], by simp -implicitDefEqProofs only [go_sem, ht56, hbb]; try simp [ht56, hbb]⟩⟩ fun k _ g2 hik hinvk => ?_
    refine AW.seq ?_
    refine AW.runs [] (by simp -implicitDefEqProofs only [go_sem, ht56, hbb]; rfl) (by trivial) ?_
    refine AW.if (by simp -implicitDefEqProofs only [go_sem, ht56, hbb]; rfl) (fun ht87 => ?_) (fun ht87 => ?_)
    · have hltk : k < b.ins.length := lt_dec ht87
      obtain ⟨x, hx⟩ := get_of_lt hltk
      refine AW.skip ?_
      show AW _ _ _ _ _
      refine AW.seq ?_
      refine AW.block ?_
      refine AW.has (n := 102) [(2, .box g0 (fnRow f)), (3, .box (g0 + 1) (fnRow f)), (5, .int .i64 i), (6, .box g1 (blockRow b)), (7, .box (g1 + 1) (blockRow b)), (8, .int .i64 k)] (⟨by simp -implicitDefEqProofs only [go_sem], by simp -implicitDefEqProofs only [go_sem, ht56, hbb, ht87, hx]; try simp [ht56, hbb, ht87, hx]⟩) (fun g3 => ?_)
      refine AW.seq ?_
      refine AW.drw 10 [[], [0], [], [0, 1, 2], [0, 1, 2, 3], [], [5], [], [5, 6, 7], [5, 6, 7, 8], [0, 1, 2, 3, 4, 5, 6, 7, 8, 9], [0, 1, 2, 3, 4, 5, 6, 7, 8, 9, 10]] [90, 91, 92, 93, 94, 95, 96, 97, 98, 99] [] [.bool true] f_mix (by decide) (by rfl) (by rfl) rfl rfl (by simp -implicitDefEqProofs only [go_sem, ht56, hbb, ht87, hx]; rfl) (by trivial) (by simp -implicitDefEqProofs only [go_sem, ht56, hbb, ht87, hx]; rfl) (ob1 (ob37 x)) ?_
      show AW _ _ _ _ _
      refine AW.if (by simp -implicitDefEqProofs only [go_sem, ht56, hbb, ht87, hx]; rfl) (fun h => absurd h (by simp)) (fun _ => ?_)
      refine AW.skip ?_
      show AW _ _ _ _ _
      refine AW.run [] (by simp -implicitDefEqProofs only [go_sem, ht56, hbb, ht87, hx]; rfl) (by trivial) ?_
      exact ⟨hltk, (), trivial, ⟨by simp -implicitDefEqProofs only [go_sem], by simp -implicitDefEqProofs only [go_sem, ht56, hbb, ht87, hx, step_int k (Nat.lt_of_lt_of_le hltk (by omega))]; try simp [ht56, hbb, ht87, hx, step_int k (Nat.lt_of_lt_of_le hltk (by omega))]⟩⟩
    · refine AW.exit ?_
      show AW _ _ _ _ _
      refine AW.run [] (by simp -implicitDefEqProofs only [go_sem, ht56, hbb, ht87]; rfl) (by trivial) ?_
      exact ⟨hlti, (), trivial, ⟨by simp -implicitDefEqProofs only [go_sem], by simp -implicitDefEqProofs only [go_sem, ht56, hbb, ht87, step_int i (Nat.lt_of_lt_of_le hlti (by omega))]; try simp [ht56, hbb, ht87, step_int i (Nat.lt_of_lt_of_le hlti (by omega))]⟩⟩
  · refine AW.exit ?_
    show AW _ _ _ _ _
    refine AW.runs [] (by simp -implicitDefEqProofs only [go_sem, ht56]; rfl) (by trivial) ?_
    exact AW.ret ⟨.inl rfl, _, rfl, by simp -implicitDefEqProofs only [go_sem]⟩
theorem fun20 (u : Unt) (hu : Modest u) : Fun Try.prog 20 [.agg (untRow u), .agg (untRow u)] (fun r => r = .bool true) := by
  refine Fun.ok Try.func20 rfl (by rfl) 47 Try.ntmps20 (by rfl) fun hok K g0 => ?_
  simp -implicitDefEqProofs only [go_sem]
  refine AW.runs [] (by simp -implicitDefEqProofs only [go_sem]; rfl) (by trivial) ?_
  refine AW.seq ?_
  refine AW.runs [.bool true] (by simp -implicitDefEqProofs only [go_sem]; rfl) (ob1 ((fun57 u.points hu.points).obb)) ?_
  refine AW.if (by simp -implicitDefEqProofs only [go_sem]; rfl) (fun h => absurd h (by simp)) (fun _ => ?_)
  refine AW.skip ?_
  show AW _ _ _ _ _
  refine AW.seq ?_
  refine AW.runs [] (by simp -implicitDefEqProofs only [go_sem]; rfl) (by trivial) ?_
  refine AW.block ?_
  refine AW.forH (X := Unit) (u.funcs.length) (fun i _ => [(2, .box g0 (untRow u)), (3, .box (g0 + 1) (untRow u)), (5, .int .i64 i)]) (fun i _ => True) 47 ⟨(), trivial, ⟨by simp -implicitDefEqProofs only [go_sem], by simp -implicitDefEqProofs only [go_sem]; try simp []⟩⟩ fun i _ g1 hii hinvi => ?_
  refine AW.seq ?_
  refine AW.runs [] (by simp -implicitDefEqProofs only [go_sem]; rfl) (by trivial) ?_
  refine AW.if (by simp -implicitDefEqProofs only [go_sem]; rfl) (fun ht32 => ?_) (fun ht32 => ?_)
  · have hlti : i < u.funcs.length := lt_dec ht32
    obtain ⟨f, hf⟩ := get_of_lt hlti
    have hfm := List.mem_of_getElem? hf
    refine AW.skip ?_
    show AW _ _ _ _ _
    refine AW.seq ?_
    refine AW.block ?_
    refine AW.has (n := 47) [(2, .box g0 (untRow u)), (3, .box (g0 + 1) (untRow u)), (5, .int .i64 i)] (⟨by simp -implicitDefEqProofs only [go_sem], by simp -implicitDefEqProofs only [go_sem, ht32, hf]; try simp [ht32, hf]⟩) (fun g2 => ?_)
    refine AW.seq ?_
    refine AW.drw 10 [[], [0], [], [0, 1, 2], [0, 1, 2, 3], [], [5], [], [5, 6, 7], [5, 6, 7, 8], [0, 1, 2, 3, 4, 5, 6, 7, 8, 9], [0, 1, 2, 3, 4, 5, 6, 7, 8, 9, 10]] [35, 36, 37, 38, 39, 40, 41, 42, 43, 44] [] [.bool true] f_mix (by decide) (by rfl) (by rfl) rfl rfl (by simp -implicitDefEqProofs only [go_sem, ht32, hf]; rfl) (by trivial) (by simp -implicitDefEqProofs only [go_sem, ht32, hf]; rfl) (ob1 ((fun58 f (hu.blocks f hfm) (hu.vars f hfm) (fun b hb => Nat.le_trans (ins_le hb) (hu.ins f hfm))).obb)) ?_
    show AW _ _ _ _ _
    refine AW.if (by simp -implicitDefEqProofs only [go_sem, ht32, hf]; rfl) (fun h => absurd h (by simp)) (fun _ => ?_)
    refine AW.skip ?_
    show AW _ _ _ _ _
    refine AW.run [] (by simp -implicitDefEqProofs only [go_sem, ht32, hf]; rfl) (by trivial) ?_
    exact ⟨hlti, (), trivial, ⟨by simp -implicitDefEqProofs only [go_sem], by simp -implicitDefEqProofs only [go_sem, ht32, hf, step_int i (Nat.lt_of_lt_of_le hlti (by have := hu.funcs; omega))]; try simp [ht32, hf, step_int i (Nat.lt_of_lt_of_le hlti (by have := hu.funcs; omega))]⟩⟩
  · refine AW.exit ?_
    show AW _ _ _ _ _
    refine AW.runs [] (by simp -implicitDefEqProofs only [go_sem, ht32]; rfl) (by trivial) ?_
    exact AW.ret ⟨.inl rfl, _, rfl, by simp -implicitDefEqProofs only [go_sem]⟩
structure LikeP (v u : Unt) : Prop where
  main : v.main = u.main
  points : v.points = u.points
  len : v.funcs.length = u.funcs.length
  fn : ∀ (i : Nat) (g f : Fn), v.funcs[i]? = some g → u.funcs[i]? = some f → g.name = f.name ∧ g.params = f.params ∧ g.result = f.result ∧ g.vars = f.vars
theorem fun21 (v u : Unt) (hu : Modest u) (h : LikeP v u) : Fun Try.prog 21 [.agg (untRow v), .agg (untRow u)] (fun r => r = .bool true) := by
  refine Fun.ok Try.func21 rfl (by rfl) 74 Try.ntmps21 (by rfl) fun hok K g0 => ?_
  simp -implicitDefEqProofs only [go_sem]
  have h1 := h.main
  have h2 := h.points
  have h3 : (v.funcs.length : Int) = (u.funcs.length : Int) := by rw [h.len]
  refine AW.runs [] (by simp -implicitDefEqProofs only [go_sem, h1, h2, h3]; rfl) (by trivial) ?_
  refine AW.seq ?_
  refine AW.runs [.bool true] (by simp -implicitDefEqProofs only [go_sem, h1, h2, h3]; rfl) (ob1 ((fun57 u.points hu.points).obb)) ?_
  refine AW.if (by simp -implicitDefEqProofs only [go_sem, h1, h2, h3]; rfl) (fun h => absurd h (by simp)) (fun _ => ?_)
  refine AW.skip ?_
  show AW _ _ _ _ _
  refine AW.seq ?_
  refine AW.runs [] (by simp -implicitDefEqProofs only [go_sem, h1, h2, h3]; rfl) (by trivial) ?_
  refine AW.block ?_
  refine AW.forH (X := Unit) (u.funcs.length) (fun i _ => [(2, .box g0 (untRow v)), (3, .box (g0 + 1) (untRow u)), (5, .int .i64 i)]) (fun i _ => True) 74 ⟨(), trivial, ⟨by simp -implicitDefEqProofs only [go_sem], by simp -implicitDefEqProofs only [go_sem, h1, h2, h3]; try simp [h1, h2, h3]⟩⟩ fun i _ g1 hii hinvi => ?_
  refine AW.seq ?_
  refine AW.runs [] (by simp -implicitDefEqProofs only [go_sem, h1, h2, h3]; rfl) (by trivial) ?_
  refine AW.if (by simp -implicitDefEqProofs only [go_sem, h1, h2, h3]; rfl) (fun ht34 => ?_) (fun ht34 => ?_)
  · have hlti : i < u.funcs.length := lt_dec ht34
    obtain ⟨f, hf⟩ := get_of_lt hlti
    have hfm := List.mem_of_getElem? hf
    obtain ⟨e, he⟩ := get_of_lt (h.len ▸ hlti : i < v.funcs.length)
    obtain ⟨q1, q2, q3, q4⟩ := h.fn i e f he hf
    refine AW.skip ?_
    show AW _ _ _ _ _
    refine AW.seq ?_
    refine AW.block ?_
    refine AW.runs [] (by simp -implicitDefEqProofs only [go_sem, h1, h2, h3, ht34, hf, he, q1, q2, q3, q4]; rfl) (by trivial) ?_
    refine AW.runs [] (by simp -implicitDefEqProofs only [go_sem, h1, h2, h3, ht34, hf, he, q1, q2, q3, q4]; rfl) (by trivial) ?_
    refine AW.runs [.bool true] (by simp -implicitDefEqProofs only [go_sem, h1, h2, h3, ht34, hf, he, q1, q2, q3, q4]; rfl) (ob1 ((fun59 f.vars (hu.vars f hfm)).obb)) ?_
    refine AW.if (by simp -implicitDefEqProofs only [go_sem, h1, h2, h3, ht34, hf, he, q1, q2, q3, q4]; rfl) (fun h => absurd h (by simp)) (fun _ => ?_)
    refine AW.skip ?_
    show AW _ _ _ _ _
    refine AW.run [] (by simp -implicitDefEqProofs only [go_sem, h1, h2, h3, ht34, hf, he, q1, q2, q3, q4]; rfl) (by trivial) ?_
    exact ⟨hlti, (), trivial, ⟨by simp -implicitDefEqProofs only [go_sem], by simp -implicitDefEqProofs only [go_sem, h1, h2, h3, ht34, hf, he, q1, q2, q3, q4, step_int i (Nat.lt_of_lt_of_le hlti (by have := hu.funcs; omega))]; try simp [h1, h2, h3, ht34, hf, he, q1, q2, q3, q4, step_int i (Nat.lt_of_lt_of_le hlti (by have := hu.funcs; omega))]⟩⟩
  · refine AW.exit ?_
    show AW _ _ _ _ _
    refine AW.runs [] (by simp -implicitDefEqProofs only [go_sem, h1, h2, h3, ht34]; rfl) (by trivial) ?_
    exact AW.ret ⟨.inl rfl, _, rfl, by simp -implicitDefEqProofs only [go_sem]⟩
end Go.Proofs.Ytgoajlgkbcongaa.Vm
end
section
set_option linter.unusedVariables false
set_option linter.unusedSimpArgs false
set_option maxRecDepth 100000
set_option maxHeartbeats 4000000
namespace Go.Proofs.Ytgoajlgkbcongaa.Vm
open Go Go.RowKit Go.Proofs
/-- Where a virtual is made first. -/
structure FirstMade (f : Fn) (v : Int) (b i : Nat) : Prop where
  at_ : ∃ blk x, f.blocks[b]? = some blk ∧ blk.ins[i]? = some x ∧ makesOf x = v
  before : ∀ b' blk, b' < b → f.blocks[b']? = some blk → ∀ x ∈ blk.ins, makesOf x ≠ v
  here : ∀ blk, f.blocks[b]? = some blk → ∀ x ∈ blk.ins.take i, makesOf x ≠ v
theorem mem_take_lt {α : Type} {l : List α} {i j : Nat} {x : α} (h : l[j]? = some x) (hj : j < i) : x ∈ l.take i := List.mem_of_getElem? (by rw [List.getElem?_take, if_pos hj]; exact h)
theorem FirstMade.uniq {f : Fn} {v : Int} {b i b' i' : Nat} (h : FirstMade f v b i) (k : FirstMade f v b' i') : b = b' ∧ i = i' := by
  obtain ⟨blk, x, h1, h2, h3⟩ := h.at_
  obtain ⟨blk', x', k1, k2, k3⟩ := k.at_
  have hb : b = b' := by
    rcases Nat.lt_trichotomy b b' with hlt | e | hlt
    · exact absurd h3 (k.before b blk hlt h1 x (List.mem_of_getElem? h2))
    · exact e
    · exact absurd k3 (h.before b' blk' hlt k1 x' (List.mem_of_getElem? k2))
  subst hb
  rw [h1] at k1; cases k1
  refine ⟨rfl, ?_⟩
  rcases Nat.lt_trichotomy i i' with hlt | e | hlt
  · exact absurd h3 (k.here blk h1 x (mem_take_lt h2 hlt))
  · exact e
  · exact absurd k3 (h.here blk h1 x' (mem_take_lt k2 hlt))
open Classical in
noncomputable def madeOf (f : Fn) (v : Int) : Option (Nat × Nat) := if h : ∃ p : Nat × Nat, FirstMade f v p.1 p.2 then some h.choose else none
theorem madeOf_some {f : Fn} {v : Int} {b i : Nat} : madeOf f v = some (b, i) ↔ FirstMade f v b i := by
  unfold madeOf
  constructor
  · intro h
    split at h
    · rename_i hh
      have := hh.choose_spec
      have e := Option.some.inj h
      rw [e] at this
      exact this
    · cases h
  · intro h
    have hh : ∃ p : Nat × Nat, FirstMade f v p.1 p.2 := ⟨(b, i), h⟩
    rw [dif_pos hh]
    obtain ⟨h1, h2⟩ := hh.choose_spec.uniq h
    exact congrArg some (Prod.ext h1 h2)
theorem madeOf_none {f : Fn} {v : Int} (h : ∀ b ∈ f.blocks, ∀ x ∈ b.ins, makesOf x ≠ v) : madeOf f v = none := by
  unfold madeOf
  rw [dif_neg]
  rintro ⟨p, hp⟩
  obtain ⟨blk, x, h1, h2, h3⟩ := hp.at_
  exact h blk (List.mem_of_getElem? h1) x (List.mem_of_getElem? h2) h3
theorem least {p : Nat → Prop} (h : ∃ n, p n) : ∃ n, p n ∧ ∀ m, m < n → ¬ p m := by
  classical
  obtain ⟨n, hn⟩ := h
  induction n using Nat.strongRecOn with
  | _ n ih =>
    by_cases h : ∃ m, m < n ∧ p m
    · obtain ⟨m, h1, h2⟩ := h; exact ih m h1 h2
    · exact ⟨n, hn, fun m h1 h2 => h ⟨m, h1, h2⟩⟩
theorem madeOf_any {f : Fn} {v : Int} {b : Block} {x : Ins} (hb : b ∈ f.blocks) (hx : x ∈ b.ins) (h : makesOf x = v) : ∃ p, madeOf f v = some p := by
  classical
  cases hm : madeOf f v with
  | some p => exact ⟨p, rfl⟩
  | none =>
    exfalso
    obtain ⟨j, hj⟩ := List.mem_iff_getElem?.1 hb
    have hex : ∃ n, ∃ blk : Block, f.blocks[n]? = some blk ∧ ∃ x ∈ blk.ins, makesOf x = v := ⟨j, b, hj, x, hx, h⟩
    obtain ⟨n1, ⟨blk, h1, hx2⟩, hmin1⟩ := least hex
    have hex2 : ∃ n : Nat, ∃ x, blk.ins[n]? = some x ∧ makesOf x = v := by
      obtain ⟨x, hx, h2⟩ := hx2
      obtain ⟨i, hi⟩ := List.mem_iff_getElem?.1 hx
      exact ⟨i, x, hi, h2⟩
    obtain ⟨n2, ⟨x2, h3, h4⟩, hmin2⟩ := least hex2
    have : FirstMade f v n1 n2 := ⟨⟨blk, x2, h1, h3, h4⟩, fun b' blk' hlt hb' y hy hv => hmin1 b' hlt ⟨blk', hb', y, hy, hv⟩, fun blk' hb' y hy hv => by
      rw [h1] at hb'; cases hb'
      obtain ⟨k, hk⟩ := List.mem_iff_getElem?.1 hy
      rw [List.getElem?_take] at hk
      split at hk
      · rename_i hlt
        exact hmin2 k hlt ⟨y, hk, hv⟩
      · cases hk⟩
    rw [madeOf_some.2 this] at hm
    cases hm
noncomputable def madeAV (f : Fn) (v : Int) : AV := match madeOf f v with
  | some p => .tup [.int .i64 p.1, .int .i64 p.2, .bool true]
  | none => .tup [.int .i64 0, .int .i64 0, .bool false]
theorem madeAV_some {f : Fn} {v : Int} {b i : Nat} (h : FirstMade f v b i) : madeAV f v = .tup [.int .i64 b, .int .i64 i, .bool true] := by unfold madeAV; rw [madeOf_some.2 h]
theorem madeAV_none {f : Fn} {v : Int} (h : ∀ b ∈ f.blocks, ∀ x ∈ b.ins, makesOf x ≠ v) : madeAV f v = .tup [.int .i64 0, .int .i64 0, .bool false] := by unfold madeAV; rw [madeOf_none h]
theorem frz_madeAV (f : Fn) (v : Int) : (madeAV f v).frz = madeAV f v := by
  unfold madeAV
  split <;> simp [AV.frz]
theorem outR_3 (P : Program) (fr : Fr) (a b c : Nat) (h : ([a, b, c] : List Nat).Nodup) : outR P fr [.tmp a, .tmp b, .tmp c] = some (.tup [fr.s a, fr.s b, fr.s c]) := by
  unfold outR
  simp only [List.map_cons, List.map_nil, outSlot]
  rw [if_pos h]
  rfl
theorem fun99 (f : Fn) (v : Int) (hb : f.blocks.length ≤ 1048576) (hi : ∀ b ∈ f.blocks, b.ins.length ≤ 1048576) : Fun Try.prog 99 [.agg (fnRow f), .int .i64 v] (fun r => r = madeAV f v) := by
  refine Fun.ok Try.func99 rfl (by rfl) 41 Try.ntmps99 (by rfl) fun hok K g0 => ?_
  simp -implicitDefEqProofs only [go_sem]
  refine AW.runs [] (by simp -implicitDefEqProofs only [go_sem]; rfl) (by trivial) ?_
  refine AW.seq ?_
  refine AW.runs [] (by simp -implicitDefEqProofs only [go_sem]; rfl) (by trivial) ?_
  refine AW.block ?_
  refine AW.forH (X := Unit) (f.blocks.length) (fun i _ => [(1, .int .i64 v), (2, .box g0 (fnRow f)), (7, .int .i64 i)]) (fun i _ => ∀ j b, j < i → f.blocks[j]? = some b → ∀ x ∈ b.ins, makesOf x ≠ v) 41 ⟨(), fun j b h => by omega, ⟨by simp -implicitDefEqProofs only [go_sem], by simp -implicitDefEqProofs only [go_sem]; try simp []⟩⟩ fun i _ g1 hii hinvi => ?_
  refine AW.seq ?_
  refine AW.runs [] (by simp -implicitDefEqProofs only [go_sem]; rfl) (by trivial) ?_
  refine AW.if (by simp -implicitDefEqProofs only [go_sem]; rfl) (fun ht13 => ?_) (fun ht13 => ?_)
  · have hlti : i < f.blocks.length := lt_dec ht13
    obtain ⟨b, hbb⟩ := get_of_lt hlti
    have hil := hi b (List.mem_of_getElem? hbb)
    refine AW.skip ?_
    show AW _ _ _ _ _
    refine AW.seq ?_
    refine AW.block ?_
    refine AW.runs [] (by simp -implicitDefEqProofs only [go_sem, ht13, hbb]; rfl) (by trivial) ?_
    refine AW.block ?_
    refine AW.forH (X := Unit) (b.ins.length) (fun k _ => [(1, .int .i64 v), (2, .box g0 (fnRow f)), (7, .int .i64 i), (8, .int .i64 k)]) (fun k _ => ∀ x ∈ b.ins.take k, makesOf x ≠ v) 41 ⟨(), by simp, ⟨by simp -implicitDefEqProofs only [go_sem], by simp -implicitDefEqProofs only [go_sem, ht13, hbb]; try simp [ht13, hbb]⟩⟩ fun k _ g2 hik hinvk => ?_
    refine AW.seq ?_
    refine AW.runs [] (by simp -implicitDefEqProofs only [go_sem, ht13, hbb]; rfl) (by trivial) ?_
    refine AW.if (by simp -implicitDefEqProofs only [go_sem, ht13, hbb]; rfl) (fun ht24 => ?_) (fun ht24 => ?_)
    · have hltk : k < b.ins.length := lt_dec ht24
      obtain ⟨x, hx⟩ := get_of_lt hltk
      refine AW.skip ?_
      show AW _ _ _ _ _
      refine AW.seq ?_
      refine AW.block ?_
      refine AW.runs [.int .i64 (makesOf x)] (by simp -implicitDefEqProofs only [go_sem, ht13, hbb, ht24, hx]; rfl) (ob1 ((fun25 x).obi)) ?_
      refine AW.if (by simp -implicitDefEqProofs only [go_sem, ht13, hbb, ht24, hx]; rfl) (fun ht38 => ?_) (fun ht38 => ?_)
      · refine AW.runs [] (by simp -implicitDefEqProofs only [go_sem, ht13, hbb, ht24, hx, ht38]; rfl) (by trivial) ?_
        exact AW.ret ⟨.inl rfl, _, outR_3 _ _ _ _ _ (by decide), by rw [madeAV_some (b := i) (i := k) ⟨⟨b, x, hbb, hx, by simpa using ht38⟩, hinvi, fun b2 hb2 => by rw [hbb] at hb2; cases hb2; exact hinvk⟩]; simp -implicitDefEqProofs only [go_sem]⟩
      · refine AW.skip ?_
        show AW _ _ _ _ _
        refine AW.run [] (by simp -implicitDefEqProofs only [go_sem, ht13, hbb, ht24, hx, ht38]; rfl) (by trivial) ?_
        exact ⟨hltk, (), take_all hinvk hx (by simpa using ht38), ⟨by simp -implicitDefEqProofs only [go_sem], by simp -implicitDefEqProofs only [go_sem, ht13, hbb, ht24, hx, ht38, step_int k (Nat.lt_of_lt_of_le hltk (by omega))]; try simp [ht13, hbb, ht24, hx, ht38, step_int k (Nat.lt_of_lt_of_le hltk (by omega))]⟩⟩
    · have hbn : ∀ x ∈ b.ins, makesOf x ≠ v := take_end hinvk (ge_dec ht24)
      refine AW.exit ?_
      show AW _ _ _ _ _
      refine AW.run [] (by simp -implicitDefEqProofs only [go_sem, ht13, hbb, ht24]; rfl) (by trivial) ?_
      exact ⟨hlti, (), upto hinvi hbb hbn, ⟨by simp -implicitDefEqProofs only [go_sem], by simp -implicitDefEqProofs only [go_sem, ht13, hbb, ht24, step_int i (Nat.lt_of_lt_of_le hlti (by omega))]; try simp [ht13, hbb, ht24, step_int i (Nat.lt_of_lt_of_le hlti (by omega))]⟩⟩
  · have hno : ∀ b ∈ f.blocks, ∀ x ∈ b.ins, makesOf x ≠ v := fun b hb => by obtain ⟨j, hj⟩ := List.mem_iff_getElem?.1 hb; exact hinvi j b (by have := (List.getElem?_eq_some_iff.1 hj).1; have := ge_dec ht13; omega) hj
    refine AW.exit ?_
    show AW _ _ _ _ _
    refine AW.runs [] (by simp -implicitDefEqProofs only [go_sem, ht13]; rfl) (by trivial) ?_
    exact AW.ret ⟨.inl rfl, _, outR_3 _ _ _ _ _ (by decide), by rw [madeAV_none hno]; simp -implicitDefEqProofs only [go_sem]⟩
def boolsRow (w : List Bool) : List AV := [.fz (w.map boolRow)]
attribute [go_sem] boolsRow
/-- What the table says. -/
def tabAt (t : List (List Bool)) (a b : Nat) : Bool := ((t[a]?).bind (·[b]?)).getD false
noncomputable def thereB (f : Fn) (t : List (List Bool)) (v : Int) (b i : Nat) : Bool := match madeOf f v with
  | some p => if ((p.1 : Int) == (b : Int)) then decide ((p.2 : Int) < (i : Int)) else tabAt t p.1 b
  | none => false
theorem madeAV_s {f : Fn} {v : Int} {p : Nat × Nat} (h : madeOf f v = some p) : madeAV f v = .tup [.int .i64 p.1, .int .i64 p.2, .bool true] := by unfold madeAV; rw [h]
theorem madeAV_n {f : Fn} {v : Int} (h : madeOf f v = none) : madeAV f v = .tup [.int .i64 0, .int .i64 0, .bool false] := by unfold madeAV; rw [h]
theorem madeOf_lt {f : Fn} {v : Int} {p : Nat × Nat} (h : madeOf f v = some p) : p.1 < f.blocks.length := by
  obtain ⟨blk, x, h1, _⟩ := (madeOf_some.1 h).at_
  exact (List.getElem?_eq_some_iff.1 h1).1
theorem three (a b : Bool) : a = false ∨ (a = true ∧ b = false) ∨ (a = true ∧ b = true) := by cases a <;> cases b <;> simp
theorem bne_of_beq_f {a b : Int} (h : (a == b) = false) : (a != b) = true := by simp only [bne, h, Bool.not_false]
attribute [go_sem] Bool.false_eq_true
theorem fun98 (f : Fn) (t : List (List Bool)) (v : Int) (b i : Nat) (hb : f.blocks.length ≤ 1048576) (hi : ∀ b ∈ f.blocks, b.ins.length ≤ 1048576) (ht : t.length = f.blocks.length) (htt : ∀ w ∈ t, w.length = f.blocks.length) (hlb : b < f.blocks.length) : Fun Try.prog 98 [.agg (fnRow f), .fz (t.map boolsRow), .int .i64 v, .int .i64 b, .int .i64 i] (fun r => r = .bool (thereB f t v b i)) := by
  refine Fun.ok Try.func98 rfl (by rfl) 46 Try.ntmps98 (by rfl) fun hok K g0 => ?_
  simp -implicitDefEqProofs only [go_sem]
  refine AW.runs [] (by simp -implicitDefEqProofs only [go_sem]; rfl) (by trivial) ?_
  cases hm : madeOf f v
  · have hma := madeAV_n hm
    have hth : thereB f t v b i = false := by unfold thereB; rw [hm]
    refine AW.runs [madeAV f v] (by simp -implicitDefEqProofs only [go_sem, hma, hth]; rfl) (ob1 ((fun99 f v hb hi).ob (frz_madeAV f v))) ?_
    refine AW.runs [] (by simp -implicitDefEqProofs only [go_sem, hma, hth]; rfl) (by trivial) ?_
    exact AW.ret ⟨.inl rfl, _, rfl, by simp -implicitDefEqProofs only [go_sem, hma, hth]⟩
  · rename_i p
    have hma := madeAV_s hm
    have hpl := madeOf_lt hm
    have hth : thereB f t v b i = if ((p.1 : Int) == (b : Int)) then decide ((p.2 : Int) < (i : Int)) else tabAt t p.1 b := by unfold thereB; rw [hm]
    obtain ⟨w, hw⟩ := get_of_lt (ht ▸ hpl : p.1 < t.length)
    have hwl := htt w (List.mem_of_getElem? hw)
    obtain ⟨q, hq⟩ := get_of_lt (show b < w.length by omega)
    have hta : tabAt t p.1 b = q := by unfold tabAt; rw [hw]; simp [hq]
    refine AW.runs [madeAV f v] (by simp -implicitDefEqProofs only [go_sem, hma, hth, hw, hq, hta]; rfl) (ob1 ((fun99 f v hb hi).ob (frz_madeAV f v))) ?_
    rcases three ((p.1 : Int) == (b : Int)) (decide ((p.2 : Int) < (i : Int))) with c1 | ⟨c1, c3⟩ | ⟨c1, c3⟩
    · have c2 := bne_of_beq_f c1
      refine AW.runs [] (by simp -implicitDefEqProofs only [go_sem, hma, hth, hw, hq, hta, c1, c2]; rfl) (by trivial) ?_
      exact AW.ret ⟨.inl rfl, _, rfl, by simp -implicitDefEqProofs only [go_sem, hma, hth, hw, hq, hta, c1, c2]⟩
    · have c2 : ((p.1 : Int) != (b : Int)) = false := by simp only [bne, c1, Bool.not_true]
      refine AW.runs [] (by simp -implicitDefEqProofs only [go_sem, hma, hth, hw, hq, hta, c1, c3, c2]; rfl) (by trivial) ?_
      exact AW.ret ⟨.inl rfl, _, rfl, by simp -implicitDefEqProofs only [go_sem, hma, hth, hw, hq, hta, c1, c3, c2]⟩
    · refine AW.runs [] (by simp -implicitDefEqProofs only [go_sem, hma, hth, hw, hq, hta, c1, c3]; rfl) (by trivial) ?_
      exact AW.ret ⟨.inl rfl, _, rfl, by simp -implicitDefEqProofs only [go_sem, hma, hth, hw, hq, hta, c1, c3]⟩
end Go.Proofs.Ytgoajlgkbcongaa.Vm
end
