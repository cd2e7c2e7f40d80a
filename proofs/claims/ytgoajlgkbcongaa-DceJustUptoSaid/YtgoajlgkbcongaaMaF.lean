/- Contracts of functions, third part: for every argument within the stated bounds the function returns the stated value. -/
import Derived.Test.YtgoajlgkbcongaaMaE
import Derived.ScopeJumps
section
set_option linter.unusedVariables false
set_option linter.unusedSimpArgs false
set_option maxRecDepth 100000
set_option maxHeartbeats 4000000
namespace Go.Proofs.Ytgoajlgkbcongaa.Vm
open Go Go.RowKit Go.Proofs
/-- The way of without: as Reached's, but not by one block. -/
def wgo (ts : List Term) (no : Int) : Nat → List Bool → List Int → List Bool
  | 0, out, _ => out
  | _ + 1, out, [] => out
  | n + 1, out, x :: l => if (out.getD x.toNat true || x == no) = true then wgo ts no n out l else wgo ts no n (out.set x.toNat true) (l ++ nextAt ts x.toNat)
def withoutOf (ts : List Term) (no : Int) : List Bool := wgo ts no (3 * ts.length + 1) (List.replicate ts.length false) [0]
structure WI (ts : List Term) (no : Int) (start out : List Bool) (l : List Int) (i m : Nat) : Prop where
  hi : i ≤ l.length
  ho : out.length = ts.length
  hl : ∀ x ∈ l, 0 ≤ x ∧ x < (ts.length : Int)
  hm : 3 * out.count false + (l.length - i) ≤ m
  hr : wgo ts no m out (l.drop i) = start
  hb : l.length + 2 * out.count false ≤ 2 * ts.length + 1
theorem WI.at {ts : List Term} {no : Int} {start out : List Bool} {l : List Int} {i m : Nat} (h : WI ts no start out l i m) (hlt : i < l.length) : ∃ k : Nat, l[i]? = some (k : Int) ∧ k < ts.length ∧ (∃ b, out[k]? = some b) ∧ 0 < m := by
  have hx := List.getElem?_eq_getElem hlt
  obtain ⟨h1, h2⟩ := h.hl _ (List.getElem_mem hlt)
  obtain ⟨k, hk⟩ := Int.eq_ofNat_of_zero_le h1
  have hk2 : k < ts.length := by rw [hk] at h2; omega
  exact ⟨k, by rw [hx, hk], hk2, get_of_lt (by rw [h.ho]; exact hk2), by have := h.hm; omega⟩
theorem WI.seen {ts : List Term} {no : Int} {start out : List Bool} {l : List Int} {i m k : Nat} {b : Bool} (h : WI ts no start out l i m) (hlt : i < l.length) (hx : l[i]? = some (k : Int)) (ho : out[k]? = some b) (hs : (b || (k : Int) == no) = true) : m - 1 < m ∧ WI ts no start out l (i + 1) (m - 1) := by
  have hm0 : 0 < m := by have := h.hm; omega
  obtain ⟨m, rfl⟩ : ∃ q, m = q + 1 := ⟨m - 1, by omega⟩
  refine ⟨by omega, hlt, h.ho, h.hl, by have := h.hm; omega, ?_, h.hb⟩
  have := h.hr
  rw [List.drop_eq_getElem_cons hlt] at this
  have e : l[i] = (k : Int) := by have := List.getElem?_eq_getElem hlt; rw [hx] at this; exact (Option.some.inj this).symm
  rw [e, wgo] at this
  simp only [Int.toNat_natCast, List.getD_eq_getElem?_getD, ho, Option.getD_some, hs, if_true] at this
  simpa using this
theorem WI.new {ts : List Term} {no : Int} {start out : List Bool} {l : List Int} {i m k : Nat} {t : Term} (h : WI ts no start out l i m) (ht : Targets ts) (hlt : i < l.length) (hx : l[i]? = some (k : Int)) (ho : out[k]? = some false) (hn : ((k : Int) == no) = false) (hk : ts[k]? = some t) :
    m - 1 < m ∧ WI ts no start (out.set k true) (l ++ nextOf t) (i + 1) (m - 1) := by
  have hm0 : 0 < m := by have := h.hm; omega
  obtain ⟨m, rfl⟩ : ∃ q, m = q + 1 := ⟨m - 1, by omega⟩
  have hc := count_set ho
  have hnl := next_len t
  refine ⟨by omega, by simp; omega, by simp [h.ho], fun x hx => ?_, ?_, ?_, ?_⟩
  · rcases List.mem_append.1 hx with h1 | h1
    · exact h.hl x h1
    · exact ht t (List.mem_of_getElem? hk) x h1
  · have := h.hm
    simp only [List.length_append]
    omega
  · have := h.hr
    rw [List.drop_eq_getElem_cons hlt] at this
    have e : l[i] = (k : Int) := by have := List.getElem?_eq_getElem hlt; rw [hx] at this; exact (Option.some.inj this).symm
    rw [e, wgo] at this
    simp only [Int.toNat_natCast, List.getD_eq_getElem?_getD, ho, Option.getD_some, hn, Bool.or_self, Bool.false_eq_true, if_false, nextAt, hk] at this
    rw [List.drop_append_of_le_length (by omega)]
    simpa using this
  · have := h.hb
    simp only [List.length_append]
    omega
theorem WI.done {ts : List Term} {no : Int} {start out : List Bool} {l : List Int} {i m : Nat} (h : WI ts no start out l i m) (hi : l.length ≤ i) : out = start := by
  have := h.hr
  rw [List.drop_of_length_le hi] at this
  cases m <;> simpa [wgo] using this
theorem wgo_len (ts : List Term) (no : Int) : ∀ (n : Nat) (out : List Bool) (l : List Int), (wgo ts no n out l).length = out.length
  | 0, out, l => rfl
  | n + 1, out, [] => rfl
  | n + 1, out, x :: l => by
    rw [wgo]
    split
    · exact wgo_len ts no n out l
    · rw [wgo_len ts no n _ _, List.length_set]
theorem withoutOf_len (ts : List Term) (no : Int) : (withoutOf ts no).length = ts.length := by rw [withoutOf, wgo_len, List.length_replicate]
theorem rgo_len (ts : List Term) : ∀ (n : Nat) (out : List Bool) (l : List Int), (rgo ts n out l).length = out.length
  | 0, out, l => rfl
  | n + 1, out, [] => rfl
  | n + 1, out, x :: l => by
    rw [rgo]
    split
    · exact rgo_len ts n out l
    · rw [rgo_len ts n _ _, List.length_set]
theorem reachedOf_len (ts : List Term) : (reachedOf ts).length = ts.length := by rw [reachedOf, rgo_len, List.length_replicate]
theorem fun97 (f : Fn) (no : Int) (h0 : 0 < f.blocks.length) (h1 : f.blocks.length ≤ 1048576) (ht : Targets (termsOf f)) : Fun Try.prog 97 [.agg (fnRow f), .int .i64 no] (fun r => r.frz = .fz ((withoutOf (termsOf f) no).map boolRow)) := by
  refine Fun.ok Try.func97 rfl (by rfl) 53 Try.ntmps97 (by rfl) fun hok K g0 => ?_
  simp -implicitDefEqProofs only [go_sem]
  have hts : (termsOf f).length = f.blocks.length := by simp [termsOf]
  have hb8 : f.blocks.length ≤ 281474976710656 := by omega
  have hb9 : f.blocks.length ≤ 9223372036854775807 := by omega
  refine AW.runs [] (by simp -implicitDefEqProofs only [go_sem, hb8, hb9]; rfl) (by trivial) ?_
  refine AW.runs [] (by simp -implicitDefEqProofs only [go_sem, hb8, hb9]; rfl) (by trivial) ?_
  refine AW.runs [] (by simp -implicitDefEqProofs only [go_sem, hb8, hb9]; rfl) (by trivial) ?_
  refine AW.seq ?_
  refine AW.runs [] (by simp -implicitDefEqProofs only [go_sem, hb8, hb9]; rfl) (by trivial) ?_
  refine AW.block ?_
  refine AW.loopH (X := Nat × Nat × List Int × List Bool × Nat × Nat) (fun x => x.2.2.2.2.2) (fun x => [(1, .int .i64 no), (2, .box g0 (fnRow f)), (5, .own x.1 1 (x.2.2.2.1.map boolRow)), (6, .own x.2.1 1 (x.2.2.1.map intRow)), (7, .int .i64 x.2.2.2.2.1)]) (fun x => WI (termsOf f) no (withoutOf (termsOf f) no) x.2.2.2.1 x.2.2.1 x.2.2.2.2.1 x.2.2.2.2.2) 53 ⟨(g0 + 1, g0 + 2, [0], List.replicate f.blocks.length false, 0, 3 * f.blocks.length + 1), ⟨by simp, by simp [hts], by simp [hts]; omega, by simp [List.count_replicate], by rw [withoutOf, hts]; rfl, by simp [hts, List.count_replicate]; omega⟩, ⟨by simp -implicitDefEqProofs only [go_sem], by simp -implicitDefEqProofs only [go_sem, hb8, hb9]; try simp [hb8, hb9]⟩⟩ fun x g1 hinv => ?_
  obtain ⟨idO, idL, l, out, i, m⟩ := x
  simp only at hinv ⊢
  refine AW.seq ?_
  refine AW.runs [] (by simp -implicitDefEqProofs only [go_sem, hb8, hb9]; rfl) (by trivial) ?_
  refine AW.if (by simp -implicitDefEqProofs only [go_sem, hb8, hb9]; rfl) (fun ht16 => ?_) (fun ht16 => ?_)
  · have hlt : i < l.length := lt_dec ht16
    obtain ⟨k, hx, hk, ⟨bo, hxo⟩, hm⟩ := hinv.at hlt
    obtain ⟨b, hbb⟩ := get_of_lt (hts ▸ hk : k < f.blocks.length)
    have hbt : (termsOf f)[k]? = some b.term := map_get _ hbb
    have hstep := step_int i (by have := hinv.hb; have := hinv.hi; omega)
    have hok : k < out.length := by rw [hinv.ho]; exact hk
    refine AW.skip ?_
    show AW _ _ _ _ _
    refine AW.seq ?_
    refine AW.block ?_
    refine AW.seq ?_
    refine AW.join [(1, .int .i64 no), (2, .box g0 (fnRow f)), (5, .own idO 1 (out.map boolRow)), (6, .own idL 1 (l.map intRow)), (7, .int .i64 i), (33, .bool (bo || (k : Int) == no))] 53 ?_ (fun g2 => ?_)
    · cases hbo : bo
      · refine AW.run [] (by simp -implicitDefEqProofs only [go_sem, hb8, hb9, hx, hxo, hbb, hlt, hok, hbo]; rfl) (by trivial) ?_
        exact ⟨by simp -implicitDefEqProofs only [go_sem], by simp -implicitDefEqProofs only [go_sem, hb8, hb9, hx, hxo, hbb, hlt, hok, hbo, Bool.true_or, Bool.false_or]; try simp [hb8, hb9, hx, hxo, hbb, hlt, hok, hbo, Bool.true_or, Bool.false_or]⟩
      · refine AW.run [] (by simp -implicitDefEqProofs only [go_sem, hb8, hb9, hx, hxo, hbb, hlt, hok, hbo]; rfl) (by trivial) ?_
        exact ⟨by simp -implicitDefEqProofs only [go_sem], by simp -implicitDefEqProofs only [go_sem, hb8, hb9, hx, hxo, hbb, hlt, hok, hbo, Bool.true_or, Bool.false_or]; try simp [hb8, hb9, hx, hxo, hbb, hlt, hok, hbo, Bool.true_or, Bool.false_or]⟩
    · obtain ⟨sk, hsk⟩ : ∃ z, z = (bo || (k : Int) == no) := ⟨_, rfl⟩
      rw [← hsk]
      refine AW.if (by simp -implicitDefEqProofs only [go_sem, hb8, hb9, hx, hxo, hbb, hlt, hok]; rfl) (fun ht33 => ?_) (fun ht33 => ?_)
      · rw [ht33] at hsk
        refine AW.exit ?_
        show AW _ _ _ _ _
        refine AW.run [] (by simp -implicitDefEqProofs only [go_sem, hb8, hb9, hx, hxo, hbb, hlt, hok]; rfl) (by trivial) ?_
        have hs := hinv.seen hlt hx hxo hsk.symm
        exact ⟨(idO, idL, l, out, i + 1, m - 1), hs.1, hs.2, ⟨by simp -implicitDefEqProofs only [go_sem], by simp -implicitDefEqProofs only [go_sem, hb8, hb9, hx, hxo, hbb, hlt, hok, hstep]; try simp [hb8, hb9, hx, hxo, hbb, hlt, hok, hstep]⟩⟩
      · rw [ht33] at hsk
        have hbf : bo = false := by cases bo; rfl; simp at hsk
        have hnf : ((k : Int) == no) = false := by rw [hbf, Bool.false_or] at hsk; exact hsk.symm
        refine AW.skip ?_
        show AW _ _ _ _ _
        refine AW.runs [] (by simp -implicitDefEqProofs only [go_sem, hb8, hb9, hx, hxo, hbb, hlt, hok]; rfl) (by trivial) ?_
        have hbn : (l.length + (nextOf b.term).length) * 8 ≤ 140737488355328 := by have := hinv.hb; have := next_len b.term; omega
        refine AW.has (n := 53) [(1, .int .i64 no), (2, .box g0 (fnRow f)), (5, .own idO 1 ((out.set k true).map boolRow)), (6, .own idL 1 (l.map intRow)), (7, .int .i64 i)] (⟨by simp -implicitDefEqProofs only [go_sem], by simp -implicitDefEqProofs only [go_sem, hb8, hb9, hx, hxo, hbb, hlt, hok, hbn]; try simp [hb8, hb9, hx, hxo, hbb, hlt, hok, hbn]⟩) (fun g3 => ?_)
        refine AW.drw 11 [[], [], [1], [], [], [3, 4], [3, 4, 5], [1, 2, 3, 4, 5, 6], [1, 2, 3, 4, 5, 6, 7], [1, 2, 3, 4, 5, 6, 7, 8], [1, 2, 3, 4, 5, 6, 7, 8, 9], [0, 1, 2, 3, 4, 5, 6, 7, 8, 9, 10], [0, 1, 2, 3, 4, 5, 6, 7, 8, 9, 10, 11]] [40, 41, 42, 43, 44, 45, 46, 47, 48, 49, 50] [.fz ((nextOf b.term).map intRow)] [] f_mix (by decide) (by rfl) (by rfl) rfl rfl (by simp -implicitDefEqProofs only [go_sem, hb8, hb9, hx, hxo, hbb, hlt, hok, hbn]; rfl) (ob1 ((fun71 b.term).obf)) (by simp -implicitDefEqProofs only [go_sem, hb8, hb9, hx, hxo, hbb, hlt, hok, hbn]; rfl) (by trivial) ?_
        show AW _ _ _ _ _
        refine AW.run [] (by simp -implicitDefEqProofs only [go_sem, hb8, hb9, hx, hxo, hbb, hlt, hok, hbn]; rfl) (by trivial) ?_
        have hs := hinv.new ht hlt hx (by rw [hxo, hbf]) hnf hbt
        exact ⟨(idO, g3, l ++ nextOf b.term, out.set k true, i + 1, m - 1), hs.1, hs.2, ⟨by simp -implicitDefEqProofs only [go_sem], by simp -implicitDefEqProofs only [go_sem, hb8, hb9, hx, hxo, hbb, hlt, hok, hbn, hstep]; try simp [hb8, hb9, hx, hxo, hbb, hlt, hok, hbn, hstep]⟩⟩
  · have hd := hinv.done (ge_dec ht16)
    refine AW.exit ?_
    show AW _ _ _ _ _
    refine AW.runs [] (by simp -implicitDefEqProofs only [go_sem, hb8, hb9]; rfl) (by trivial) ?_
    exact AW.ret ⟨.inl rfl, _, rfl, by simp [go_sem, hd]⟩
theorem flat_fzc (rows : List (List AV)) : flatRows [[AV.fz rows]] = true := rfl
def rowOf (ts : List Term) (a : Nat) : List Bool := (List.range ts.length).map fun b => if (withoutOf ts (-1)).getD a false then (if (withoutOf ts (-1)).getD b false then !(withoutOf ts a).getD b false else false) else false
def tableOf (ts : List Term) : List (List Bool) := (List.range ts.length).map (rowOf ts)
theorem tableOf_len (ts : List Term) : (tableOf ts).length = ts.length := by simp [tableOf]
theorem tableOf_row (ts : List Term) : ∀ w ∈ tableOf ts, w.length = ts.length := by
  intro w hw
  obtain ⟨a, _, rfl⟩ := List.mem_map.1 hw
  simp [rowOf]
theorem getD_of {α : Type} {l : List α} {k : Nat} {x d : α} (h : l[k]? = some x) : l.getD k d = x := by rw [List.getD_eq_getElem?_getD, h]; rfl
/-- A row that is filled one by one. -/
theorem fill_set {α : Type} {f : Nat → α} {n k : Nat} {d : α} (h : k < n) : ((List.range n).map fun i => if i < k then f i else d).set k (f k) = (List.range n).map fun i => if i < k + 1 then f i else d := by
  refine List.ext_getElem? fun j => ?_
  rw [List.getElem?_set, List.getElem?_map, List.getElem?_map]
  by_cases e : k = j
  · subst e
    simp [h]
  · rw [if_neg e]
    rcases Nat.lt_or_ge j n with h1 | h1
    · rw [List.getElem?_range h1]
      simp only [Option.map_some]
      congr 1
      by_cases h2 : j < k
      · rw [if_pos h2, if_pos (by omega)]
      · rw [if_neg h2, if_neg (by omega)]
    · rw [List.getElem?_eq_none (by simpa using h1)]
      rfl
theorem fill_0 {α : Type} (f : Nat → α) (n : Nat) (d : α) : ((List.range n).map fun i => if i < 0 then f i else d) = List.replicate n d := by
  refine List.ext_getElem (by simp) fun i h1 h2 => by simp
theorem fill_n {α : Type} (f : Nat → α) (n : Nat) (d : α) : ((List.range n).map fun i => if i < n then f i else d) = (List.range n).map f := by
  refine List.map_congr_left fun i hi => ?_
  rw [if_pos (by simpa using hi)]
theorem frz_bools2 (id : Nat) (l : List (List Bool)) : (AV.own id 1 (l.map boolsRow)).frz = .fz (l.map boolsRow) := by rw [AV.frz]; simp [boolsRow, AV.frz]
attribute [go_sem] frz_bools2 List.length_range
def fillB (f : Nat → Bool) (n k : Nat) : List Bool := (List.range n).map fun i => if i < k then f i else false
theorem fillB_len (f : Nat → Bool) (n k : Nat) : (fillB f n k).length = n := by simp [fillB]
theorem range_snoc {α : Type} (f : Nat → α) (i : Nat) : (List.range (i + 1)).map f = (List.range i).map f ++ [f i] := by rw [List.range_succ, List.map_append]; rfl
theorem fun74 (f : Fn) (h0 : 0 < f.blocks.length) (h1 : f.blocks.length ≤ 1048576) (ht : Targets (termsOf f)) : Fun Try.prog 74 [.agg (fnRow f)] (fun r => r.frz = .fz ((tableOf (termsOf f)).map boolsRow)) := by
  refine Fun.ok Try.func74 rfl (by rfl) 57 Try.ntmps74 (by rfl) fun hok K g0 => ?_
  simp -implicitDefEqProofs only [go_sem]
  have hts : (termsOf f).length = f.blocks.length := by simp [termsOf]
  have hb8 : f.blocks.length ≤ 281474976710656 := by omega
  have hb9 : f.blocks.length ≤ 9223372036854775807 := by omega
  have hwl : ∀ z, (withoutOf (termsOf f) z).length = f.blocks.length := fun z => by rw [withoutOf_len, hts]
  refine AW.runs [] (by simp -implicitDefEqProofs only [go_sem, hb8, hb9]; rfl) (by trivial) ?_
  refine AW.runs [.fz ((withoutOf (termsOf f) (-1)).map boolRow)] (by simp -implicitDefEqProofs only [go_sem, hb8, hb9]; rfl) (ob1 ((fun97 f (-1) h0 h1 ht).obf)) ?_
  obtain ⟨rf, hrf⟩ : ∃ rf : Nat → Nat → Bool, rf = fun i k => (if (withoutOf (termsOf f) (-1)).getD i false then (if (withoutOf (termsOf f) (-1)).getD k false then !(withoutOf (termsOf f) i).getD k false else false) else false) := ⟨_, rfl⟩
  obtain ⟨G, hG⟩ : ∃ G : Nat → List AV, G = fun a => [AV.fz ((fillB (rf a) f.blocks.length f.blocks.length).map boolRow)] := ⟨_, rfl⟩
  refine AW.runs [] (by simp -implicitDefEqProofs only [go_sem, hb8, hb9]; rfl) (by trivial) ?_
  refine AW.nilOwn (4, []) 1 (by simp -implicitDefEqProofs only [go_sem]) ?_
  refine AW.seq ?_
  refine AW.runs [] (by simp -implicitDefEqProofs only [go_sem, hb8, hb9]; rfl) (by trivial) ?_
  refine AW.block ?_
  refine AW.forH (X := Nat) (f.blocks.length) (fun i x => [(1, .box g0 (fnRow f)), (3, .fz ((withoutOf (termsOf f) (-1)).map boolRow)), (4, .own x 1 ((List.range i).map G)), (5, .int .i64 i)]) (fun i x => True) 57 ⟨(g0 + 1), trivial, ⟨by simp -implicitDefEqProofs only [go_sem], by simp -implicitDefEqProofs only [go_sem, hb8, hb9, List.range_zero, List.map_nil]; try simp [hb8, hb9, List.range_zero, List.map_nil]⟩⟩ fun i x g1 hii hinvi => ?_
  refine AW.seq ?_
  refine AW.runs [] (by simp -implicitDefEqProofs only [go_sem, hb8, hb9]; rfl) (by trivial) ?_
  refine AW.if (by simp -implicitDefEqProofs only [go_sem, hb8, hb9]; rfl) (fun ht15 => ?_) (fun ht15 => ?_)
  · have hlti : i < f.blocks.length := lt_dec ht15
    obtain ⟨va, hva0⟩ := get_of_lt (show i < (withoutOf (termsOf f) (-1)).length by rw [hwl]; exact hlti)
    have hga := getD_of (d := false) hva0
    refine AW.skip ?_
    show AW _ _ _ _ _
    refine AW.seq ?_
    refine AW.block ?_
    refine AW.runs [.fz ((withoutOf (termsOf f) i).map boolRow)] (by simp -implicitDefEqProofs only [go_sem, hb8, hb9, ht15, hva0]; rfl) (ob1 ((fun97 f i h0 h1 ht).obf)) ?_
    refine AW.runs [] (by simp -implicitDefEqProofs only [go_sem, hb8, hb9, ht15, hva0]; rfl) (by trivial) ?_
    refine AW.seq ?_
    refine AW.runs [] (by simp -implicitDefEqProofs only [go_sem, hb8, hb9, ht15, hva0]; rfl) (by trivial) ?_
    refine AW.block ?_
    refine AW.forH (X := Nat) (f.blocks.length) (fun k y => [(1, .box g0 (fnRow f)), (3, .fz ((withoutOf (termsOf f) (-1)).map boolRow)), (4, .own x 1 ((List.range i).map G)), (5, .int .i64 i), (6, .fz ((withoutOf (termsOf f) i).map boolRow)), (7, .own y 1 ((fillB (rf i) f.blocks.length k).map boolRow)), (8, .int .i64 k)]) (fun k y => True) 57 ⟨g1, trivial, ⟨by simp -implicitDefEqProofs only [go_sem], by simp -implicitDefEqProofs only [go_sem, hb8, hb9, ht15, hva0, fillB, fill_0]; try simp [hb8, hb9, ht15, hva0, fillB, fill_0]⟩⟩ fun k y g2 hik hinvk => ?_
    refine AW.seq ?_
    refine AW.runs [] (by simp -implicitDefEqProofs only [go_sem, hb8, hb9, ht15, hva0]; rfl) (by trivial) ?_
    refine AW.if (by simp -implicitDefEqProofs only [go_sem, hb8, hb9, ht15, hva0]; rfl) (fun ht29 => ?_) (fun ht29 => ?_)
    · have hltk : k < f.blocks.length := lt_dec ht29
      obtain ⟨vb, hvb0⟩ := get_of_lt (show k < (withoutOf (termsOf f) (-1)).length by rw [hwl]; exact hltk)
      have hgb := getD_of (d := false) hvb0
      obtain ⟨vc, hvc0⟩ := get_of_lt (show k < (withoutOf (termsOf f) i).length by rw [hwl]; exact hltk)
      have hgc := getD_of (d := false) hvc0
      have hkl : k < (fillB (rf i) f.blocks.length k).length := by rw [fillB_len]; exact hltk
      obtain ⟨vd, hvd⟩ := get_of_lt hkl
      refine AW.skip ?_
      show AW _ _ _ _ _
      refine AW.seq ?_
      refine AW.block ?_
      rcases three va vb with hva | ⟨hva, hvb⟩ | ⟨hva, hvb⟩
      · have hrk : rf i k = false := by rw [hrf]; simp only [hga, hva, Bool.false_eq_true, if_false]
        have hset : (fillB (rf i) f.blocks.length k).set k false = fillB (rf i) f.blocks.length (k + 1) := by have h9 := fill_set (f := rf i) (d := false) hltk; rw [hrk] at h9; exact h9
        refine AW.run [] (by simp -implicitDefEqProofs only [go_sem, hb8, hb9, ht15, hva0, ht29, hvb0, hvc0, hkl, hvd, hva]; rfl) (by trivial) ?_
        show AW _ _ _ _ _
        refine AW.run [] (by simp -implicitDefEqProofs only [go_sem, hb8, hb9, ht15, hva0, ht29, hvb0, hvc0, hkl, hvd, hva]; rfl) (by trivial) ?_
        exact ⟨hltk, y, trivial, ⟨by simp -implicitDefEqProofs only [go_sem], by simp -implicitDefEqProofs only [go_sem, hb8, hb9, ht15, hva0, ht29, hvb0, hvc0, hkl, hvd, hva, step_int k (Nat.lt_of_lt_of_le hltk (hb9)), hset]; try simp [hb8, hb9, ht15, hva0, ht29, hvb0, hvc0, hkl, hvd, hva, step_int k (Nat.lt_of_lt_of_le hltk (hb9)), hset]⟩⟩
      · have hrk : rf i k = false := by rw [hrf]; simp only [hga, hgb, hva, hvb, Bool.false_eq_true, if_false, if_true]
        have hset : (fillB (rf i) f.blocks.length k).set k false = fillB (rf i) f.blocks.length (k + 1) := by have h9 := fill_set (f := rf i) (d := false) hltk; rw [hrk] at h9; exact h9
        refine AW.run [] (by simp -implicitDefEqProofs only [go_sem, hb8, hb9, ht15, hva0, ht29, hvb0, hvc0, hkl, hvd, hva, hvb]; rfl) (by trivial) ?_
        show AW _ _ _ _ _
        refine AW.run [] (by simp -implicitDefEqProofs only [go_sem, hb8, hb9, ht15, hva0, ht29, hvb0, hvc0, hkl, hvd, hva, hvb]; rfl) (by trivial) ?_
        exact ⟨hltk, y, trivial, ⟨by simp -implicitDefEqProofs only [go_sem], by simp -implicitDefEqProofs only [go_sem, hb8, hb9, ht15, hva0, ht29, hvb0, hvc0, hkl, hvd, hva, hvb, step_int k (Nat.lt_of_lt_of_le hltk (hb9)), hset]; try simp [hb8, hb9, ht15, hva0, ht29, hvb0, hvc0, hkl, hvd, hva, hvb, step_int k (Nat.lt_of_lt_of_le hltk (hb9)), hset]⟩⟩
      · have hrk : rf i k = !vc := by rw [hrf]; simp only [hga, hgb, hgc, hva, hvb, if_true]
        have hset : (fillB (rf i) f.blocks.length k).set k (!vc) = fillB (rf i) f.blocks.length (k + 1) := by have h9 := fill_set (f := rf i) (d := false) hltk; rw [hrk] at h9; exact h9
        refine AW.run [] (by simp -implicitDefEqProofs only [go_sem, hb8, hb9, ht15, hva0, ht29, hvb0, hvc0, hkl, hvd, hva, hvb]; rfl) (by trivial) ?_
        show AW _ _ _ _ _
        refine AW.run [] (by simp -implicitDefEqProofs only [go_sem, hb8, hb9, ht15, hva0, ht29, hvb0, hvc0, hkl, hvd, hva, hvb]; rfl) (by trivial) ?_
        exact ⟨hltk, y, trivial, ⟨by simp -implicitDefEqProofs only [go_sem], by simp -implicitDefEqProofs only [go_sem, hb8, hb9, ht15, hva0, ht29, hvb0, hvc0, hkl, hvd, hva, hvb, step_int k (Nat.lt_of_lt_of_le hltk (hb9)), hset]; try simp [hb8, hb9, ht15, hva0, ht29, hvb0, hvc0, hkl, hvd, hva, hvb, step_int k (Nat.lt_of_lt_of_le hltk (hb9)), hset]⟩⟩
    · have hke : k = f.blocks.length := by have := ge_dec ht29; omega
      subst hke
      refine AW.exit ?_
      show AW _ _ _ _ _
      refine AW.ice (7, []) (by simp -implicitDefEqProofs only [go_sem]; rfl) ?_
      have hsn : (List.range i).map G ++ [[AV.fz ((fillB (rf i) f.blocks.length f.blocks.length).map boolRow)]] = (List.range (i + 1)).map G := by rw [range_snoc, hG]
      have hbn : (i + 1) * 24 ≤ 140737488355328 := by omega
      refine AW.run [] (by simp -implicitDefEqProofs only [go_sem, hb8, hb9, ht15, hva0, ht29, hbn]; rfl) (by trivial) ?_
      show AW _ _ _ _ _
      refine AW.run [] (by simp -implicitDefEqProofs only [go_sem, hb8, hb9, ht15, hva0, ht29, hbn]; rfl) (by trivial) ?_
      exact ⟨hlti, (g2 + 1), trivial, ⟨by simp -implicitDefEqProofs only [go_sem], by simp -implicitDefEqProofs only [go_sem, hb8, hb9, ht15, hva0, ht29, hbn, step_int i (Nat.lt_of_lt_of_le hlti (hb9)), hsn]; try simp [hb8, hb9, ht15, hva0, ht29, hbn, step_int i (Nat.lt_of_lt_of_le hlti (hb9)), hsn]⟩⟩
  · have hie : i = f.blocks.length := by have := ge_dec ht15; omega
    refine AW.exit ?_
    show AW _ _ _ _ _
    refine AW.runs [] (by simp -implicitDefEqProofs only [go_sem, hb8, hb9, ht15]; rfl) (by trivial) ?_
    exact AW.ret ⟨.inl rfl, _, rfl, by have hrow : ∀ a, fillB (rf a) f.blocks.length f.blocks.length = rowOf (termsOf f) a := (fun a => by rw [fillB, fill_n]; unfold rowOf; rw [hts, hrf]); have hfin : (AV.own x 1 ((List.range i).map G)).frz = .fz ((tableOf (termsOf f)).map boolsRow) := (by rw [frz_own, hG]; unfold tableOf; rw [hts, List.map_map, List.map_map, hie]; refine congrArg AV.fz (List.map_congr_left fun a _ => ?_); simp [hrow, boolsRow, boolRow, AV.frz]); exact Eq.trans (congrArg AV.frz (a₂ := .own x 1 ((List.range i).map G)) (by simp -implicitDefEqProofs only [go_sem])) hfin⟩
end Go.Proofs.Ytgoajlgkbcongaa.Vm
end
section
set_option linter.unusedVariables false
set_option linter.unusedSimpArgs false
set_option maxRecDepth 100000
set_option maxHeartbeats 4000000
namespace Go.Proofs.Ytgoajlgkbcongaa.Vm
open Go Go.RowKit Go.Proofs
theorem bne_ab1 {p : Nat × Nat} {b i : Nat} (e : p = (b, i)) (h : ((p.1 : Int) != (b : Int)) = true) : False := by subst e; simp at h
theorem bne_ab2 {p : Nat × Nat} {b i : Nat} (e : p = (b, i)) (h : ((p.2 : Int) != (i : Int)) = true) : False := by subst e; simp at h
theorem pair_eq {p : Nat × Nat} {b i : Nat} (h1 : ((p.1 : Int) != (b : Int)) = false) (h2 : ((p.2 : Int) != (i : Int)) = false) : p = (b, i) := by
  have e1 : (p.1 : Int) = (b : Int) := by simpa [bne] using h1
  have e2 : (p.2 : Int) = (i : Int) := by simpa [bne] using h2
  exact Prod.ext (by omega) (by omega)
theorem congr3 {a b c a' b' c' : AV} (h1 : a = a') (h2 : b = b') (h3 : c = c') : AV.tup [a, b, c] = .tup [a', b', c'] := by rw [h1, h2, h3]
def markOf (x : Ins) : Option Int := if x.op == 45 then some x.num else none
def marksB (b : Block) : List Int := b.ins.filterMap markOf
def marksTo (f : Fn) (b : Nat) : List Int := (f.blocks.take b).flatMap marksB
def ones (l : List Int) : List (Int × AV) := l.map fun n => (n, AV.int .i64 1)
theorem mfind_ones (n : Int) : ∀ (l : List Int), (mfind n (ones l) = none ∧ n ∉ l) ∨ ∃ i, mfind n (ones l) = some (i, AV.int .i64 1) ∧ n ∈ l
  | [] => .inl ⟨rfl, by simp⟩
  | k :: l => by
    by_cases e : k = n
    · subst e; exact .inr ⟨0, by simp [ones, mfind], by simp⟩
    · rcases mfind_ones n l with ⟨h1, h2⟩ | ⟨i, h1, h2⟩
      · left
        refine ⟨?_, by simp [h2, Ne.symm e]⟩
        show mfind n ((k, AV.int .i64 1) :: ones l) = none
        rw [mfind, if_neg e, h1]; rfl
      · right
        refine ⟨i + 1, ?_, by simp [h2]⟩
        show mfind n ((k, AV.int .i64 1) :: ones l) = _
        rw [mfind, if_neg e, h1]; rfl
theorem mput_ones {n : Int} {l : List Int} (h : mfind n (ones l) = none) : mput n (AV.int .i64 1) (ones l) = ones (l ++ [n]) := by
  unfold mput
  rw [h]
  simp [ones]
theorem marks_prefix {f : Fn} {b : Nat} {blk : Block} (h : f.blocks[b]? = some blk) (i : Nat) : (marksTo f b ++ (blk.ins.take i).filterMap markOf).Sublist (f.blocks.flatMap marksB) := by
  have h1 : f.blocks.flatMap marksB = marksTo f b ++ (marksB blk ++ (f.blocks.drop (b + 1)).flatMap marksB) := by
    have hb := (List.getElem?_eq_some_iff.1 h).1
    have h2 : f.blocks = f.blocks.take b ++ blk :: f.blocks.drop (b + 1) := by
      have h3 := List.drop_eq_getElem_cons hb
      have h4 : f.blocks[b] = blk := (List.getElem?_eq_some_iff.1 h).2
      rw [h4] at h3
      rw [← h3, List.take_append_drop]
    conv => lhs; rw [h2]
    rw [List.flatMap_append, List.flatMap_cons]
    rfl
  rw [h1]
  refine List.Sublist.append (List.Sublist.refl _) ?_
  exact ((List.take_sublist i blk.ins).filterMap markOf).trans (List.sublist_append_left _ _)
theorem marksTo_succ {f : Fn} {b : Nat} {blk : Block} (h : f.blocks[b]? = some blk) : marksTo f (b + 1) = marksTo f b ++ marksB blk := by
  unfold marksTo
  rw [List.take_add_one, h, List.flatMap_append]
  simp
theorem fm_succ {l : List Ins} {i : Nat} {x : Ins} (h : l[i]? = some x) : (l.take (i + 1)).filterMap markOf = (l.take i).filterMap markOf ++ (markOf x).toList := by
  rw [List.take_add_one, h, List.filterMap_append]
  cases hm : markOf x <;> simp [hm]
noncomputable def useB (f : Fn) (x : Ins) (b i k : Nat) (y : Int) : Bool := if x.op == 47 then (match ((waysOf (termsOf f))[b]?).bind (·[k]?) with
    | some p => thereB f (tableOf (termsOf f)) y p.toNat (((f.blocks[p.toNat]?).map fun q => q.ins.length).getD 0)
    | none => false) else thereB f (tableOf (termsOf f)) y b i
noncomputable def badEnd (f : Fn) (b : Nat) (blk : Block) : Bool := if blk.term.kind != 1 then (if decide (blk.term.a ≥ 0) then !thereB f (tableOf (termsOf f)) blk.term.a b blk.ins.length else false) else false
structure InsSnd (f : Fn) (b i : Nat) (x : Ins) : Prop where
  op : (x.op == 34 || x.op == 35) = false
  uses : ∀ (k : Nat) (y : Int), (usesOf x)[k]? = some y → useB f x b i k y = true
  made : 0 ≤ makesOf x → madeOf f (makesOf x) = some (b, i)
structure BlkSnd (f : Fn) (b : Nat) (blk : Block) : Prop where
  reach : (reachedOf (termsOf f))[b]? = some true
  ins : ∀ (i : Nat) (x : Ins), blk.ins[i]? = some x → InsSnd f b i x
  term : badEnd f b blk = false
/-- Is a function sound? -/
structure SndFn (f : Fn) : Prop where
  blks : ∀ (b : Nat) (blk : Block), f.blocks[b]? = some blk → BlkSnd f b blk
  marks : (f.blocks.flatMap marksB).Nodup
theorem zer_run {P : Program} {t : TypeId} {z : Value} (h : (P.info? t).bind (·.zero) = some z) (w : World) : (zeroValue t).run P w = .ok z w := by
  obtain ⟨i, h1, h2⟩ := Option.bind_eq_some_iff.1 h
  simp [zeroValue, typeInfo, h1, h2]
theorem map124 : mapTy Try.prog 124 = some (2, 3) := by kernel_rfl
theorem int2 : intk Try.prog 2 = some .i64 := by kernel_rfl
theorem zer3 : (Try.prog.info? 3).bind (·.zero) = some (.int .i64 0) := by kernel_rfl
theorem ofZ0 : ofZ (.int .i64 0) = .int .i64 0 := rfl
/-- What Ways tells are blocks. -/
theorem addWay_mem {i : Nat} {out : List (List Int)} {k : Int} {P : Int → Prop} (h : ∀ w ∈ out, ∀ p ∈ w, P p) (hi : P i) : ∀ w ∈ addWay i out k, ∀ p ∈ w, P p := by
  intro w hw p hp
  unfold addWay at hw
  rcases List.mem_or_eq_of_mem_set hw with h1 | h1
  · exact h w h1 p hp
  · subst h1
    rcases List.mem_append.1 hp with h2 | h2
    · cases hk : out[k.toNat]? with
      | none => rw [hk] at h2; simp at h2
      | some v => rw [hk] at h2; exact h v (List.mem_of_getElem? hk) p h2
    · rw [List.mem_singleton.1 h2]; exact hi
theorem foldWay_mem {i : Nat} {P : Int → Prop} (hi : P i) : ∀ (ks : List Int) {out : List (List Int)}, (∀ w ∈ out, ∀ p ∈ w, P p) → ∀ w ∈ ks.foldl (addWay i) out, ∀ p ∈ w, P p
  | [], out, h => h
  | k :: ks, out, h => foldWay_mem hi ks (addWay_mem h hi)
theorem waysTo_mem (ts : List Term) : ∀ i, i ≤ ts.length → ∀ w ∈ waysTo ts i, ∀ p ∈ w, ∃ j : Nat, p = (j : Int) ∧ j < ts.length
  | 0, _ => fun w hw p hp => by have := List.eq_of_mem_replicate hw; subst this; cases hp
  | i + 1, hi => by
    rw [waysTo]
    exact foldWay_mem ⟨i, rfl, hi⟩ _ (waysTo_mem ts i (by omega))
/-- What a function that may be says of a Phi. -/
theorem phi_len {u : Unt} {n : Nat} {f : Fn} {b : Nat} {hd : Bool} {x : Ins} (h : badKnown u n f b hd x = false) (hp : (x.op == 47) = true) : x.args.length = (((waysOf (termsOf f))[b]?).getD []).length := by
  unfold badKnown at h
  cases h1 : knownOf u n f x <;> simp only [h1, if_tt, if_ff, Bool.false_eq_true, if_false, if_true] at h
  · cases h
  rw [hp] at h
  simp only [if_tt, if_true] at h
  cases hd <;> simp only [Bool.false_eq_true, if_false, if_true] at h
  · cases h
  cases h2 : ((b : Int) == 0) <;> simp only [h2, Bool.false_eq_true, if_false, if_true] at h
  · have : ((x.args.length : Int)) = ((((waysOf (termsOf f))[b]?).getD []).length : Int) := by simpa using h
    omega
  · cases h
theorem uses_phi {x : Ins} (h : (x.op == 47) = true) : usesOf x = x.args := by
  have : x.op = 47 := by simpa using h
  unfold usesOf one62 all62
  simp [this]
theorem nodup_snoc {l k : List Int} (h : l.Nodup) (hk : ∀ n ∈ k, n ∉ l) (hk2 : k.length ≤ 1 := by first | exact mark_len _ | simp) : (l ++ k).Nodup := by
  refine List.nodup_append.2 ⟨h, ?_, fun a ha b hb e => ?_⟩
  · match k, hk2 with
    | [], _ => simp
    | [a], _ => simp
  · subst e; exact hk a hb ha
theorem mark_len (x : Ins) : (markOf x).toList.length ≤ 1 := by cases markOf x <;> simp
theorem nodup_last {l : List Int} {n : Int} (h : (l ++ [n]).Nodup) (hn : n ∈ l) : False := by
  obtain ⟨_, _, h3⟩ := List.nodup_append.1 h
  exact h3 n hn n (by simp) rfl
theorem fun76 (u : Unt) (n : Nat) (f : Fn) (hok2 : FnOk u n f) (ha : ArgsLe f) : Fun Try.prog 76 [.agg (fnRow f)] (fun r => ∃ b i : Int, r = .tup [.int .i64 b, .int .i64 i, .bool (dec (SndFn f))]) := by
  refine Fun.ok Try.func76 rfl (by rfl) 180 Try.ntmps76 (by rfl) fun hok K g0 => ?_
  simp -implicitDefEqProofs only [go_sem]
  obtain ⟨hh1, hh2, hh3, hh4, hh5, hh6⟩ := badHead_f hok2.head
  have htg := targets_of hok2.terms
  have hts : (termsOf f).length = f.blocks.length := by simp [termsOf]
  have hbl : f.blocks.length ≤ 1048576 := by omega
  have hil : ∀ b ∈ f.blocks, b.ins.length ≤ 1048576 := fun b hb => by have := ins_le hb; have := hok2.many; omega
  have htr : ∀ w ∈ tableOf (termsOf f), w.length = f.blocks.length := fun w hw => by rw [tableOf_row _ w hw, hts]
  have htl : (tableOf (termsOf f)).length = f.blocks.length := by rw [tableOf_len, hts]
  refine AW.runs [] (by simp -implicitDefEqProofs only [go_sem]; rfl) (by trivial) ?_
  refine AW.runs [.fz ((tableOf (termsOf f)).map boolsRow)] (by simp -implicitDefEqProofs only [go_sem]; rfl) (ob1 ((fun74 f hh1 hbl htg).obf)) ?_
  refine AW.runs [.fz ((waysOf (termsOf f)).map intsRow)] (by simp -implicitDefEqProofs only [go_sem]; rfl) (ob1 ((fun42 f hbl htg).obf)) ?_
  refine AW.runs [.fz ((reachedOf (termsOf f)).map boolRow)] (by simp -implicitDefEqProofs only [go_sem]; rfl) (ob1 ((fun63 f hh1 hbl htg).obf)) ?_
  refine AW.runs [] (by simp -implicitDefEqProofs only [go_sem]; rfl) (by trivial) ?_
  refine AW.seq ?_
  refine AW.runs [] (by simp -implicitDefEqProofs only [go_sem]; rfl) (by trivial) ?_
  refine AW.block ?_
  refine AW.forH (X := List Int) (f.blocks.length) (fun b mk => [(1, .box g0 (fnRow f)), (5, .fz ((tableOf (termsOf f)).map boolsRow)), (6, .fz ((waysOf (termsOf f)).map intsRow)), (7, .fz ((reachedOf (termsOf f)).map boolRow)), (8, .mp (g0 + 1) (keysOf .i64 (ones mk)) (valsOf (ones mk))), (9, .int .i64 b)]) (fun b mk => mk = marksTo f b ∧ mk.Nodup ∧ ∀ j blk, j < b → f.blocks[j]? = some blk → BlkSnd f j blk) 180 ⟨[], ⟨by simp [marksTo], by simp, fun j blk h => by omega⟩, ⟨by simp -implicitDefEqProofs only [go_sem], by simp -implicitDefEqProofs only [go_sem, keysOf, valsOf, ones, List.map_nil]; try simp [keysOf, valsOf, ones, List.map_nil]⟩⟩ fun b mk g1 hib hinvb => ?_
  refine AW.seq ?_
  refine AW.runs [] (by simp -implicitDefEqProofs only [go_sem]; rfl) (by trivial) ?_
  refine AW.if (by simp -implicitDefEqProofs only [go_sem]; rfl) (fun ht32 => ?_) (fun ht32 => ?_)
  · have hltb : b < f.blocks.length := lt_dec ht32
    obtain ⟨blk, hb⟩ := get_of_lt hltb
    have hbm := List.mem_of_getElem? hb
    have hbil := hil blk hbm
    obtain ⟨re, hre⟩ := get_of_lt (show b < (reachedOf (termsOf f)).length by rw [reachedOf_len, hts]; exact hltb)
    refine AW.skip ?_
    show AW _ _ _ _ _
    refine AW.seq ?_
    refine AW.block ?_
    refine AW.seq ?_
    refine AW.runs [] (by simp -implicitDefEqProofs only [go_sem, ht32, hb, hre]; rfl) (by trivial) ?_
    refine AW.if (by simp -implicitDefEqProofs only [go_sem, ht32, hb, hre]; rfl) (fun ht39 => ?_) (fun ht39 => ?_)
    · refine AW.runs [] (by simp -implicitDefEqProofs only [go_sem, ht32, hb, hre, ht39]; rfl) (by trivial) ?_
      exact AW.ret ⟨.inl rfl, _, outR_3 _ _ _ _ _ (by decide), _, _, congr3 (by simp -implicitDefEqProofs only [go_sem]; rfl) (by simp -implicitDefEqProofs only [go_sem]; rfl) (Eq.trans (b := .bool false) (by simp -implicitDefEqProofs only [go_sem]) (congrArg AV.bool (dec_f fun h => by have := (h.blks b blk hb).reach; rw [hre] at this; cases this; cases ht39)))⟩
    · have hrt : re = true := by simpa using ht39
      refine AW.skip ?_
      show AW _ _ _ _ _
      refine AW.runs [] (by simp -implicitDefEqProofs only [go_sem, ht32, hb, hre, ht39]; rfl) (by trivial) ?_
      refine AW.seq ?_
      refine AW.runs [] (by simp -implicitDefEqProofs only [go_sem, ht32, hb, hre, ht39]; rfl) (by trivial) ?_
      refine AW.block ?_
      refine AW.forH (X := List Int) (blk.ins.length) (fun i mk => [(1, .box g0 (fnRow f)), (5, .fz ((tableOf (termsOf f)).map boolsRow)), (6, .fz ((waysOf (termsOf f)).map intsRow)), (7, .fz ((reachedOf (termsOf f)).map boolRow)), (8, .mp (g0 + 1) (keysOf .i64 (ones mk)) (valsOf (ones mk))), (9, .int .i64 b), (10, .fz (blk.ins.map insRow)), (11, .int .i64 i)]) (fun i mk => mk = marksTo f b ++ (blk.ins.take i).filterMap markOf ∧ mk.Nodup ∧ ∀ j x, j < i → blk.ins[j]? = some x → InsSnd f b j x) 180 ⟨mk, ⟨by simp [hinvb.1], hinvb.2.1, fun j x h => by omega⟩, ⟨by simp -implicitDefEqProofs only [go_sem], by simp -implicitDefEqProofs only [go_sem, ht32, hb, hre, ht39]; try simp [ht32, hb, hre, ht39]⟩⟩ fun i mk g2 hii hinvi => ?_
      refine AW.seq ?_
      refine AW.runs [] (by simp -implicitDefEqProofs only [go_sem, ht32, hb, hre, ht39]; rfl) (by trivial) ?_
      refine AW.if (by simp -implicitDefEqProofs only [go_sem, ht32, hb, hre, ht39]; rfl) (fun ht50 => ?_) (fun ht50 => ?_)
      · have hlti : i < blk.ins.length := lt_dec ht50
        obtain ⟨x, hx⟩ := get_of_lt hlti
        have hxm := List.mem_of_getElem? hx
        have hxa := ha blk hbm x hxm
        have hul := usesOf_len x hxa
        refine AW.skip ?_
        show AW _ _ _ _ _
        refine AW.seq ?_
        refine AW.block ?_
        refine AW.runs [] (by simp -implicitDefEqProofs only [go_sem, ht32, hb, hre, ht39, ht50, hx]; rfl) (by trivial) ?_
        refine AW.seq ?_
        refine AW.join [(1, .box g0 (fnRow f)), (5, .fz ((tableOf (termsOf f)).map boolsRow)), (6, .fz ((waysOf (termsOf f)).map intsRow)), (7, .fz ((reachedOf (termsOf f)).map boolRow)), (8, .mp (g0 + 1) (keysOf .i64 (ones mk)) (valsOf (ones mk))), (9, .int .i64 b), (10, .fz (blk.ins.map insRow)), (11, .int .i64 i), (12, .box g2 (insRow x)), (64, .bool (x.op == 34 || x.op == 35))] 180 ?_ (fun g3 => ?_)
        · cases c1 : (x.op == 34)
          · refine AW.run [] (by simp -implicitDefEqProofs only [go_sem, ht32, hb, hre, ht39, ht50, hx, c1]; rfl) (by trivial) ?_
            exact ⟨by simp -implicitDefEqProofs only [go_sem], by simp -implicitDefEqProofs only [go_sem, ht32, hb, hre, ht39, ht50, hx, c1, Bool.true_or, Bool.false_or]; try simp [ht32, hb, hre, ht39, ht50, hx, c1, Bool.true_or, Bool.false_or]⟩
          · refine AW.run [] (by simp -implicitDefEqProofs only [go_sem, ht32, hb, hre, ht39, ht50, hx, c1]; rfl) (by trivial) ?_
            exact ⟨by simp -implicitDefEqProofs only [go_sem], by simp -implicitDefEqProofs only [go_sem, ht32, hb, hre, ht39, ht50, hx, c1, Bool.true_or, Bool.false_or]; try simp [ht32, hb, hre, ht39, ht50, hx, c1, Bool.true_or, Bool.false_or]⟩
        · refine AW.if (by simp -implicitDefEqProofs only [go_sem, ht32, hb, hre, ht39, ht50, hx]; rfl) (fun ht64 => ?_) (fun ht64 => ?_)
          · refine AW.runs [] (by simp -implicitDefEqProofs only [go_sem, ht32, hb, hre, ht39, ht50, hx, ht64]; rfl) (by trivial) ?_
            exact AW.ret ⟨.inl rfl, _, outR_3 _ _ _ _ _ (by decide), _, _, congr3 (by simp -implicitDefEqProofs only [go_sem]; rfl) (by simp -implicitDefEqProofs only [go_sem]; rfl) (Eq.trans (b := .bool false) (by simp -implicitDefEqProofs only [go_sem]) (congrArg AV.bool (dec_f fun h => by have := ((h.blks b blk hb).ins i x hx).op; rw [this] at ht64; cases ht64)))⟩
          · refine AW.skip ?_
            show AW _ _ _ _ _
            refine AW.runs [.fz ((usesOf x).map intRow)] (by simp -implicitDefEqProofs only [go_sem, ht32, hb, hre, ht39, ht50, hx, ht64]; rfl) (ob1 ((fun62 x hxa).obf)) ?_
            refine AW.seq ?_
            refine AW.runs [] (by simp -implicitDefEqProofs only [go_sem, ht32, hb, hre, ht39, ht50, hx, ht64]; rfl) (by trivial) ?_
            refine AW.block ?_
            refine AW.forH (X := Unit) ((usesOf x).length) (fun k _ => [(1, .box g0 (fnRow f)), (5, .fz ((tableOf (termsOf f)).map boolsRow)), (6, .fz ((waysOf (termsOf f)).map intsRow)), (7, .fz ((reachedOf (termsOf f)).map boolRow)), (8, .mp (g0 + 1) (keysOf .i64 (ones mk)) (valsOf (ones mk))), (9, .int .i64 b), (10, .fz (blk.ins.map insRow)), (11, .int .i64 i), (12, .box g2 (insRow x)), (13, .fz ((usesOf x).map intRow)), (14, .int .i64 k)]) (fun k _ => ∀ k2 y, k2 < k → (usesOf x)[k2]? = some y → useB f x b i k2 y = true) 180 ⟨(), fun k2 y h => by omega, ⟨by simp -implicitDefEqProofs only [go_sem], by simp -implicitDefEqProofs only [go_sem, ht32, hb, hre, ht39, ht50, hx, ht64]; try simp [ht32, hb, hre, ht39, ht50, hx, ht64]⟩⟩ fun k _ g4 hik hinvk => ?_
            refine AW.seq ?_
            refine AW.runs [] (by simp -implicitDefEqProofs only [go_sem, ht32, hb, hre, ht39, ht50, hx, ht64]; rfl) (by trivial) ?_
            refine AW.if (by simp -implicitDefEqProofs only [go_sem, ht32, hb, hre, ht39, ht50, hx, ht64]; rfl) (fun ht72 => ?_) (fun ht72 => ?_)
            · have hltk : k < (usesOf x).length := lt_dec ht72
              obtain ⟨y, hy⟩ := get_of_lt hltk
              refine AW.skip ?_
              show AW _ _ _ _ _
              refine AW.seq ?_
              refine AW.block ?_
              refine AW.has (n := 180) [(1, .box g0 (fnRow f)), (5, .fz ((tableOf (termsOf f)).map boolsRow)), (6, .fz ((waysOf (termsOf f)).map intsRow)), (7, .fz ((reachedOf (termsOf f)).map boolRow)), (8, .mp (g0 + 1) (keysOf .i64 (ones mk)) (valsOf (ones mk))), (9, .int .i64 b), (10, .fz (blk.ins.map insRow)), (11, .int .i64 i), (12, .box g2 (insRow x)), (13, .fz ((usesOf x).map intRow)), (14, .int .i64 k)] (⟨by simp -implicitDefEqProofs only [go_sem], by simp -implicitDefEqProofs only [go_sem, ht32, hb, hre, ht39, ht50, hx, ht64, ht72, hy]; try simp [ht32, hb, hre, ht39, ht50, hx, ht64, ht72, hy]⟩) (fun g5 => ?_)
              refine AW.seq ?_
              refine AW.drw 8 [[], [], [], [], [2, 3], [2, 3, 4], [], [], [0, 1, 2, 3, 4, 5, 6, 7], [0, 1, 2, 3, 4, 5, 6, 7, 8]] [75, 76, 77, 78, 79, 80, 81, 82] [] [.bool (thereB f (tableOf (termsOf f)) y b i)] f_mix (by decide) (by rfl) (by rfl) rfl rfl (by simp -implicitDefEqProofs only [go_sem, ht32, hb, hre, ht39, ht50, hx, ht64, ht72, hy]; rfl) (by trivial) (by simp -implicitDefEqProofs only [go_sem, ht32, hb, hre, ht39, ht50, hx, ht64, ht72, hy]; rfl) (ob1 ((fun98 f _ y b i hbl hil htl htr hltb).obb)) ?_
              show AW _ _ _ _ _
              refine AW.join [(1, .box g0 (fnRow f)), (5, .fz ((tableOf (termsOf f)).map boolsRow)), (6, .fz ((waysOf (termsOf f)).map intsRow)), (7, .fz ((reachedOf (termsOf f)).map boolRow)), (8, .mp (g0 + 1) (keysOf .i64 (ones mk)) (valsOf (ones mk))), (9, .int .i64 b), (10, .fz (blk.ins.map insRow)), (11, .int .i64 i), (12, .box g2 (insRow x)), (13, .fz ((usesOf x).map intRow)), (14, .int .i64 k), (15, .bool (useB f x b i k y))] 180 ?_ (fun g6 => ?_)
              · refine AW.runs [] (by simp -implicitDefEqProofs only [go_sem, ht32, hb, hre, ht39, ht50, hx, ht64, ht72, hy]; rfl) (by trivial) ?_
                refine AW.if (by simp -implicitDefEqProofs only [go_sem, ht32, hb, hre, ht39, ht50, hx, ht64, ht72, hy]; rfl) (fun ht86 => ?_) (fun ht86 => ?_)
                · have hpl0 := phi_len ((hok2.ins b blk hb) i x hx).known ht86
                  rw [uses_phi ht86] at hy
                  have hkl := (List.getElem?_eq_some_iff.1 hy).1
                  obtain ⟨w, hw⟩ := get_of_lt (show b < (waysOf (termsOf f)).length by rw [waysOf_len, hts]; exact hltb)
                  rw [hw, Option.getD_some] at hpl0
                  obtain ⟨pz, hpz⟩ := get_of_lt (show k < w.length by omega)
                  obtain ⟨p, rfl, hp⟩ := waysTo_mem (termsOf f) _ (Nat.le_refl _) w (List.mem_of_getElem? hw) pz (List.mem_of_getElem? hpz)
                  rw [hts] at hp
                  have hpl := hp
                  obtain ⟨pb, hpb⟩ := get_of_lt hp
                  have huse : useB f x b i k y = thereB f (tableOf (termsOf f)) y p pb.ins.length := by unfold useB; rw [if_pos ht86, hw]; simp [hpz, hpb]
                  have hy2 : (usesOf x)[k]? = some y := by rw [uses_phi ht86]; exact hy
                  refine AW.has (n := 180) [(1, .box g0 (fnRow f)), (5, .fz ((tableOf (termsOf f)).map boolsRow)), (6, .fz ((waysOf (termsOf f)).map intsRow)), (7, .fz ((reachedOf (termsOf f)).map boolRow)), (8, .mp (g0 + 1) (keysOf .i64 (ones mk)) (valsOf (ones mk))), (9, .int .i64 b), (10, .fz (blk.ins.map insRow)), (11, .int .i64 i), (12, .box g2 (insRow x)), (13, .fz ((usesOf x).map intRow)), (14, .int .i64 k)] (⟨by simp -implicitDefEqProofs only [go_sem], by simp -implicitDefEqProofs only [go_sem, ht32, hb, hre, ht39, ht50, hx, ht64, ht72, hy, ht86, hw, hpz, hpb, huse, hy2]; try simp [ht32, hb, hre, ht39, ht50, hx, ht64, ht72, hy, ht86, hw, hpz, hpb, huse, hy2]⟩) (fun g7 => ?_)
                  refine AW.drw 26 [[], [], [], [], [2, 3], [2, 3, 4], [], [], [6, 7], [6, 7, 8], [], [6, 7, 8, 9, 10], [6, 7, 8, 9, 10, 11], [], [13], [], [], [15, 16], [15, 16, 17], [], [15, 16, 17, 18, 19], [15, 16, 17, 18, 19, 20], [13, 14, 15, 16, 17, 18, 19, 20, 21], [13, 14, 15, 16, 17, 18, 19, 20, 21, 22], [13, 14, 15, 16, 17, 18, 19, 20, 21, 22, 23], [13, 14, 15, 16, 17, 18, 19, 20, 21, 22, 23, 24], [0, 1, 2, 3, 4, 5, 6, 7, 8, 9, 10, 11, 12, 13, 14, 15, 16, 17, 18, 19, 20, 21, 22, 23, 24, 25], [0, 1, 2, 3, 4, 5, 6, 7, 8, 9, 10, 11, 12, 13, 14, 15, 16, 17, 18, 19, 20, 21, 22, 23, 24, 25, 26]] [87, 88, 89, 90, 91, 92, 93, 94, 95, 96, 97, 98, 99, 100, 101, 102, 103, 104, 105, 106, 107, 108, 109, 110, 111, 112] [] [.bool (thereB f (tableOf (termsOf f)) y p pb.ins.length)] f_mix (by decide) (by rfl) (by rfl) rfl rfl (by simp -implicitDefEqProofs only [go_sem, ht32, hb, hre, ht39, ht50, hx, ht64, ht72, hy, ht86, hw, hpz, hpb, huse, hy2]; rfl) (by trivial) (by simp -implicitDefEqProofs only [go_sem, ht32, hb, hre, ht39, ht50, hx, ht64, ht72, hy, ht86, hw, hpz, hpb, huse, hy2]; rfl) (ob1 ((fun98 f _ y p pb.ins.length hbl hil htl htr hpl).obb)) ?_
                  exact ⟨by simp -implicitDefEqProofs only [go_sem], by simp -implicitDefEqProofs only [go_sem, ht32, hb, hre, ht39, ht50, hx, ht64, ht72, hy, ht86, hw, hpz, hpb, huse, hy2]; try simp [ht32, hb, hre, ht39, ht50, hx, ht64, ht72, hy, ht86, hw, hpz, hpb, huse, hy2]⟩
                · have huse : useB f x b i k y = thereB f (tableOf (termsOf f)) y b i := by unfold useB; rw [ht86]; simp
                  refine AW.skip ?_
                  exact ⟨by simp -implicitDefEqProofs only [go_sem], by simp -implicitDefEqProofs only [go_sem, ht32, hb, hre, ht39, ht50, hx, ht64, ht72, hy, ht86, huse]; try simp [ht32, hb, hre, ht39, ht50, hx, ht64, ht72, hy, ht86, huse]⟩
              · refine AW.runs [] (by simp -implicitDefEqProofs only [go_sem, ht32, hb, hre, ht39, ht50, hx, ht64, ht72, hy]; rfl) (by trivial) ?_
                refine AW.if (by simp -implicitDefEqProofs only [go_sem, ht32, hb, hre, ht39, ht50, hx, ht64, ht72, hy]; rfl) (fun ht115 => ?_) (fun ht115 => ?_)
                · refine AW.runs [] (by simp -implicitDefEqProofs only [go_sem, ht32, hb, hre, ht39, ht50, hx, ht64, ht72, hy, ht115]; rfl) (by trivial) ?_
                  exact AW.ret ⟨.inl rfl, _, outR_3 _ _ _ _ _ (by decide), _, _, congr3 (by simp -implicitDefEqProofs only [go_sem]; rfl) (by simp -implicitDefEqProofs only [go_sem]; rfl) (Eq.trans (b := .bool false) (by simp -implicitDefEqProofs only [go_sem]) (congrArg AV.bool (dec_f fun h => by have := ((h.blks b blk hb).ins i x hx).uses k y hy; rw [this] at ht115; cases ht115)))⟩
                · have huo : useB f x b i k y = true := by simpa using ht115
                  refine AW.skip ?_
                  show AW _ _ _ _ _
                  refine AW.run [] (by simp -implicitDefEqProofs only [go_sem, ht32, hb, hre, ht39, ht50, hx, ht64, ht72, hy, ht115]; rfl) (by trivial) ?_
                  exact ⟨hltk, (), upto hinvk hy huo, ⟨by simp -implicitDefEqProofs only [go_sem], by simp -implicitDefEqProofs only [go_sem, ht32, hb, hre, ht39, ht50, hx, ht64, ht72, hy, ht115, step_int k (Nat.lt_of_lt_of_le hltk (by omega))]; try simp [ht32, hb, hre, ht39, ht50, hx, ht64, ht72, hy, ht115, step_int k (Nat.lt_of_lt_of_le hltk (by omega))]⟩⟩
            · have hus : ∀ (k : Nat) (y : Int), (usesOf x)[k]? = some y → useB f x b i k y = true := fun k2 y hy => hinvk k2 y (by have := (List.getElem?_eq_some_iff.1 hy).1; have := ge_dec ht72; omega) hy
              refine AW.exit ?_
              show AW _ _ _ _ _
              refine AW.runs [.int .i64 (makesOf x)] (by simp -implicitDefEqProofs only [go_sem, ht32, hb, hre, ht39, ht50, hx, ht64, ht72]; rfl) (ob1 ((fun25 x).obi)) ?_
              refine AW.joinX (X := Unit) (fun z9 => [(1, .box g0 (fnRow f)), (5, .fz ((tableOf (termsOf f)).map boolsRow)), (6, .fz ((waysOf (termsOf f)).map intsRow)), (7, .fz ((reachedOf (termsOf f)).map boolRow)), (8, .mp (g0 + 1) (keysOf .i64 (ones mk)) (valsOf (ones mk))), (9, .int .i64 b), (10, .fz (blk.ins.map insRow)), (11, .int .i64 i), (12, .box g2 (insRow x))]) (fun z9 => (0 ≤ makesOf x → madeOf f (makesOf x) = some (b, i))) 180 ?_ (fun z9 g8 hz9 => ?_)
              · refine AW.runs [] (by simp -implicitDefEqProofs only [go_sem, ht32, hb, hre, ht39, ht50, hx, ht64, ht72]; rfl) (by trivial) ?_
                refine AW.if (by simp -implicitDefEqProofs only [go_sem, ht32, hb, hre, ht39, ht50, hx, ht64, ht72]; rfl) (fun ht121 => ?_) (fun ht121 => ?_)
                · obtain ⟨p, hmd⟩ := madeOf_any hbm hxm (rfl : makesOf x = makesOf x)
                  have hma := madeAV_s hmd
                  refine AW.runs [madeAV f (makesOf x)] (by simp -implicitDefEqProofs only [go_sem, ht32, hb, hre, ht39, ht50, hx, ht64, ht72, ht121, hma]; rfl) (ob1 (by have h := (fun99 f (makesOf x) hbl hil).ob (frz_madeAV f _); rw [hma] at h; exact h)) ?_
                  cases c1 : ((p.1 : Int) != (b : Int))
                  · refine AW.runs [] (by simp -implicitDefEqProofs only [go_sem, ht32, hb, hre, ht39, ht50, hx, ht64, ht72, ht121, hma, c1]; rfl) (by trivial) ?_
                    refine AW.if (by simp -implicitDefEqProofs only [go_sem, ht32, hb, hre, ht39, ht50, hx, ht64, ht72, ht121, hma, c1]; rfl) (fun ht136 => ?_) (fun ht136 => ?_)
                    · refine AW.runs [] (by simp -implicitDefEqProofs only [go_sem, ht32, hb, hre, ht39, ht50, hx, ht64, ht72, ht121, hma, c1, ht136]; rfl) (by trivial) ?_
                      exact AW.ret ⟨.inl rfl, _, outR_3 _ _ _ _ _ (by decide), _, _, congr3 (by simp -implicitDefEqProofs only [go_sem]; rfl) (by simp -implicitDefEqProofs only [go_sem]; rfl) (Eq.trans (b := .bool false) (by simp -implicitDefEqProofs only [go_sem]) (congrArg AV.bool (dec_f fun h => by have := ((h.blks b blk hb).ins i x hx).made (by have := of_decide_eq_true ht121; omega); exact bne_ab2 (Option.some.inj (hmd.symm.trans this)) ht136)))⟩
                    · have hmd2 : madeOf f (makesOf x) = some (b, i) := by rw [hmd, pair_eq c1 ht136]
                      refine AW.skip ?_
                      exact ⟨(), by intro h0; first | exact hmd2 | (have := of_decide_eq_false ht121; omega), ⟨by simp -implicitDefEqProofs only [go_sem], by simp -implicitDefEqProofs only [go_sem, ht32, hb, hre, ht39, ht50, hx, ht64, ht72, ht121, hma, c1, ht136]; try simp [ht32, hb, hre, ht39, ht50, hx, ht64, ht72, ht121, hma, c1, ht136]⟩⟩
                  · refine AW.runs [] (by simp -implicitDefEqProofs only [go_sem, ht32, hb, hre, ht39, ht50, hx, ht64, ht72, ht121, hma, c1]; rfl) (by trivial) ?_
                    refine AW.if (by simp -implicitDefEqProofs only [go_sem, ht32, hb, hre, ht39, ht50, hx, ht64, ht72, ht121, hma, c1]; rfl) (fun _ => ?_) (fun h => absurd h (by simp))
                    refine AW.runs [] (by simp -implicitDefEqProofs only [go_sem, ht32, hb, hre, ht39, ht50, hx, ht64, ht72, ht121, hma, c1]; rfl) (by trivial) ?_
                    exact AW.ret ⟨.inl rfl, _, outR_3 _ _ _ _ _ (by decide), _, _, congr3 (by simp -implicitDefEqProofs only [go_sem]; rfl) (by simp -implicitDefEqProofs only [go_sem]; rfl) (Eq.trans (b := .bool false) (by simp -implicitDefEqProofs only [go_sem]) (congrArg AV.bool (dec_f fun h => by have := ((h.blks b blk hb).ins i x hx).made (by have := of_decide_eq_true ht121; omega); exact bne_ab1 (Option.some.inj (hmd.symm.trans this)) c1)))⟩
                · refine AW.skip ?_
                  exact ⟨(), by intro h0; first | exact hmd2 | (have := of_decide_eq_false ht121; omega), ⟨by simp -implicitDefEqProofs only [go_sem], by simp -implicitDefEqProofs only [go_sem, ht32, hb, hre, ht39, ht50, hx, ht64, ht72, ht121]; try simp [ht32, hb, hre, ht39, ht50, hx, ht64, ht72, ht121]⟩⟩
              · have hmade := hz9
                refine AW.runs [] (by simp -implicitDefEqProofs only [go_sem, ht32, hb, hre, ht39, ht50, hx, ht64, ht72]; rfl) (by trivial) ?_
                refine AW.if (by simp -implicitDefEqProofs only [go_sem, ht32, hb, hre, ht39, ht50, hx, ht64, ht72]; rfl) (fun ht141 => ?_) (fun ht141 => ?_)
                · have hmk : (markOf x).toList = [x.num] := by unfold markOf; rw [ht141]; rfl
                  refine AW.seq ?_
                  rcases mfind_ones x.num mk with ⟨hmf, hmn⟩ | ⟨q, hmf, hmn⟩
                  · refine AW.seq (AW.region ?_)
                    refine LW.split 3 [] (by simp -implicitDefEqProofs only [go_sem, ht32, hb, hre, ht39, ht50, hx, ht64, ht72, ht141, hmk, hmf]; rfl) (by trivial) ?_
                    refine LW.op rfl ((Quiet.lookup (p := (8, [])) (id := (g0 + 1)) (m := ones mk) (n := x.num) rfl map124 int2 (zer_run zer3) (by simp -implicitDefEqProofs only [go_sem]) (by simp -implicitDefEqProofs only [go_sem]) (by simp -implicitDefEqProofs only [go_sem])).step (Fr.Le.refl _) (by simp -implicitDefEqProofs only [go_sem, lookV, ofZ0, ht32, hb, hre, ht39, ht50, hx, ht64, ht72, ht141, hmk, hmf]; rfl)) ?_
                    refine LW.split 1 [] (by simp -implicitDefEqProofs only [go_sem, ht32, hb, hre, ht39, ht50, hx, ht64, ht72, ht141, hmk, hmf]; rfl) (by trivial) ?_
                    refine LW.nil ?_
                    show AW _ _ _ _ _
                    refine AW.if (by simp -implicitDefEqProofs only [go_sem, ht32, hb, hre, ht39, ht50, hx, ht64, ht72, ht141, hmk, hmf]; rfl) (fun h => absurd h (by simp)) (fun _ => ?_)
                    refine AW.skip ?_
                    show AW _ _ _ _ _
                    have hmp := mput_ones hmf
                    refine AW.region ?_
                    refine LW.split 3 [] (by simp -implicitDefEqProofs only [go_sem, ht32, hb, hre, ht39, ht50, hx, ht64, ht72, ht141, hmk, hmf, hmp]; rfl) (by trivial) ?_
                    refine LW.op rfl (OpS.mapUpdate (p := (8, [])) (id := (g0 + 1)) (m := ones mk) (n := x.num) rfl map124 int2 (by simp -implicitDefEqProofs only [go_sem]) (by simp -implicitDefEqProofs only [go_sem]) (by simp -implicitDefEqProofs only [go_sem]) (by simp -implicitDefEqProofs only [go_sem, ht32, hb, hre, ht39, ht50, hx, ht64, ht72, ht141, hmk, hmf, hmp]; rfl)) ?_
                    refine LW.nil ?_
                    show AW _ _ _ _ _
                    refine AW.run [] (by simp -implicitDefEqProofs only [go_sem, ht32, hb, hre, ht39, ht50, hx, ht64, ht72, ht141, hmk, hmf, hmp]; rfl) (by trivial) ?_
                    have hmkn : ∀ n ∈ (markOf x).toList, n ∉ mk := by rw [hmk]; intro n hn; rw [List.mem_singleton.1 hn]; exact hmn
                    exact ⟨hlti, mk ++ (markOf x).toList, ⟨by rw [fm_succ hx, hinvi.1, List.append_assoc], nodup_snoc hinvi.2.1 hmkn, upto hinvi.2.2 hx ⟨ht64, hus, hmade⟩⟩, ⟨by simp -implicitDefEqProofs only [go_sem], by simp -implicitDefEqProofs only [go_sem, ht32, hb, hre, ht39, ht50, hx, ht64, ht72, ht141, hmk, hmf, hmp, step_int i (Nat.lt_of_lt_of_le hlti (by omega))]; try simp [ht32, hb, hre, ht39, ht50, hx, ht64, ht72, ht141, hmk, hmf, hmp, step_int i (Nat.lt_of_lt_of_le hlti (by omega))]⟩⟩
                  · refine AW.seq (AW.region ?_)
                    refine LW.split 3 [] (by simp -implicitDefEqProofs only [go_sem, ht32, hb, hre, ht39, ht50, hx, ht64, ht72, ht141, hmk, hmf]; rfl) (by trivial) ?_
                    refine LW.op rfl ((Quiet.lookup (p := (8, [])) (id := (g0 + 1)) (m := ones mk) (n := x.num) rfl map124 int2 (zer_run zer3) (by simp -implicitDefEqProofs only [go_sem]) (by simp -implicitDefEqProofs only [go_sem]) (by simp -implicitDefEqProofs only [go_sem])).step (Fr.Le.refl _) (by simp -implicitDefEqProofs only [go_sem, lookV, ofZ0, ht32, hb, hre, ht39, ht50, hx, ht64, ht72, ht141, hmk, hmf]; rfl)) ?_
                    refine LW.split 1 [] (by simp -implicitDefEqProofs only [go_sem, ht32, hb, hre, ht39, ht50, hx, ht64, ht72, ht141, hmk, hmf]; rfl) (by trivial) ?_
                    refine LW.nil ?_
                    show AW _ _ _ _ _
                    refine AW.if (by simp -implicitDefEqProofs only [go_sem, ht32, hb, hre, ht39, ht50, hx, ht64, ht72, ht141, hmk, hmf]; rfl) (fun _ => ?_) (fun h => absurd h (by simp))
                    refine AW.runs [] (by simp -implicitDefEqProofs only [go_sem, ht32, hb, hre, ht39, ht50, hx, ht64, ht72, ht141, hmk, hmf]; rfl) (by trivial) ?_
                    exact AW.ret ⟨.inl rfl, _, outR_3 _ _ _ _ _ (by decide), _, _, congr3 (by simp -implicitDefEqProofs only [go_sem]; rfl) (by simp -implicitDefEqProofs only [go_sem]; rfl) (Eq.trans (b := .bool false) (by simp -implicitDefEqProofs only [go_sem]) (congrArg AV.bool (dec_f fun h => by have h1 := (marks_prefix hb (i + 1)).nodup h.marks; rw [fm_succ hx, hmk, ← List.append_assoc, ← hinvi.1] at h1; exact nodup_last h1 hmn)))⟩
                · have hmk : (markOf x).toList = [] := by unfold markOf; rw [ht141]; rfl
                  refine AW.skip ?_
                  show AW _ _ _ _ _
                  refine AW.run [] (by simp -implicitDefEqProofs only [go_sem, ht32, hb, hre, ht39, ht50, hx, ht64, ht72, ht141, hmk]; rfl) (by trivial) ?_
                  have hmkn : ∀ n ∈ (markOf x).toList, n ∉ mk := by rw [hmk]; intro n hn; cases hn
                  exact ⟨hlti, mk ++ (markOf x).toList, ⟨by rw [fm_succ hx, hinvi.1, List.append_assoc], nodup_snoc hinvi.2.1 hmkn, upto hinvi.2.2 hx ⟨ht64, hus, hmade⟩⟩, ⟨by simp -implicitDefEqProofs only [go_sem], by simp -implicitDefEqProofs only [go_sem, ht32, hb, hre, ht39, ht50, hx, ht64, ht72, ht141, hmk, step_int i (Nat.lt_of_lt_of_le hlti (by omega)), List.append_nil]; try simp [ht32, hb, hre, ht39, ht50, hx, ht64, ht72, ht141, hmk, step_int i (Nat.lt_of_lt_of_le hlti (by omega)), List.append_nil]⟩⟩
      · have hie := ge_dec ht50
        refine AW.exit ?_
        show AW _ _ _ _ _
        refine AW.runs [] (by simp -implicitDefEqProofs only [go_sem, ht32, hb, hre, ht39, ht50]; rfl) (by trivial) ?_
        refine AW.join [(1, .box g0 (fnRow f)), (5, .fz ((tableOf (termsOf f)).map boolsRow)), (6, .fz ((waysOf (termsOf f)).map intsRow)), (7, .fz ((reachedOf (termsOf f)).map boolRow)), (8, .mp (g0 + 1) (keysOf .i64 (ones mk)) (valsOf (ones mk))), (9, .int .i64 b), (10, .fz (blk.ins.map insRow)), (176, .bool (badEnd f b blk))] 180 ?_ (fun g9 => ?_)
        · cases c1 : (blk.term.kind != 1)
          · refine AW.run [] (by simp -implicitDefEqProofs only [go_sem, ht32, hb, hre, ht39, ht50, c1]; rfl) (by trivial) ?_
            exact ⟨by simp -implicitDefEqProofs only [go_sem], by simp -implicitDefEqProofs only [go_sem, ht32, hb, hre, ht39, ht50, c1, badEnd]; try simp [ht32, hb, hre, ht39, ht50, c1, badEnd]⟩
          · cases c2 : decide (blk.term.a ≥ 0)
            · refine AW.run [] (by simp -implicitDefEqProofs only [go_sem, ht32, hb, hre, ht39, ht50, c1, c2]; rfl) (by trivial) ?_
              exact ⟨by simp -implicitDefEqProofs only [go_sem], by simp -implicitDefEqProofs only [go_sem, ht32, hb, hre, ht39, ht50, c1, c2, badEnd]; try simp [ht32, hb, hre, ht39, ht50, c1, c2, badEnd]⟩
            · refine AW.run [.bool (thereB f (tableOf (termsOf f)) blk.term.a b blk.ins.length)] (by simp -implicitDefEqProofs only [go_sem, ht32, hb, hre, ht39, ht50, c1, c2]; rfl) (ob1 ((fun98 f _ blk.term.a b blk.ins.length hbl hil htl htr hltb).obb)) ?_
              exact ⟨by simp -implicitDefEqProofs only [go_sem], by simp -implicitDefEqProofs only [go_sem, ht32, hb, hre, ht39, ht50, c1, c2, badEnd]; try simp [ht32, hb, hre, ht39, ht50, c1, c2, badEnd]⟩
        · refine AW.if (by simp -implicitDefEqProofs only [go_sem, ht32, hb, hre, ht39, ht50]; rfl) (fun ht176 => ?_) (fun ht176 => ?_)
          · refine AW.runs [] (by simp -implicitDefEqProofs only [go_sem, ht32, hb, hre, ht39, ht50, ht176]; rfl) (by trivial) ?_
            exact AW.ret ⟨.inl rfl, _, outR_3 _ _ _ _ _ (by decide), _, _, congr3 (by simp -implicitDefEqProofs only [go_sem]; rfl) (by simp -implicitDefEqProofs only [go_sem]; rfl) (Eq.trans (b := .bool false) (by simp -implicitDefEqProofs only [go_sem]) (congrArg AV.bool (dec_f fun h => by have := (h.blks b blk hb).term; rw [this] at ht176; cases ht176)))⟩
          · refine AW.skip ?_
            show AW _ _ _ _ _
            refine AW.run [] (by simp -implicitDefEqProofs only [go_sem, ht32, hb, hre, ht39, ht50, ht176]; rfl) (by trivial) ?_
            exact ⟨hltb, mk, ⟨by rw [marksTo_succ hb, hinvi.1, List.take_of_length_le hie]; rfl, hinvi.2.1, upto hinvb.2.2 hb ⟨by rw [hre, hrt], fun i x hx => hinvi.2.2 i x (by have := (List.getElem?_eq_some_iff.1 hx).1; omega) hx, ht176⟩⟩, ⟨by simp -implicitDefEqProofs only [go_sem], by simp -implicitDefEqProofs only [go_sem, ht32, hb, hre, ht39, ht50, ht176, step_int b (Nat.lt_of_lt_of_le hltb (by omega))]; try simp [ht32, hb, hre, ht39, ht50, ht176, step_int b (Nat.lt_of_lt_of_le hltb (by omega))]⟩⟩
  · have hbe := ge_dec ht32
    refine AW.exit ?_
    show AW _ _ _ _ _
    refine AW.runs [] (by simp -implicitDefEqProofs only [go_sem, ht32]; rfl) (by trivial) ?_
    exact AW.ret ⟨.inl rfl, _, outR_3 _ _ _ _ _ (by decide), _, _, congr3 (by simp -implicitDefEqProofs only [go_sem]; rfl) (by simp -implicitDefEqProofs only [go_sem]; rfl) (Eq.trans (b := .bool true) (by simp -implicitDefEqProofs only [go_sem]) (congrArg AV.bool (dec_t ⟨fun j blk hj => hinvb.2.2 j blk (by have := (List.getElem?_eq_some_iff.1 hj).1; omega) hj, by have := hinvb.2.1; rw [hinvb.1, marksTo, List.take_of_length_le hbe] at this; exact this⟩)))⟩
end Go.Proofs.Ytgoajlgkbcongaa.Vm
end
section
set_option linter.unusedVariables false
set_option linter.unusedSimpArgs false
set_option maxRecDepth 100000
set_option maxHeartbeats 4000000
namespace Go.Proofs.Ytgoajlgkbcongaa.Vm
open Go Go.RowKit Go.Proofs
section
variable {P : Program} {K : Base} {fr : Fr} {o : Oper}
/-- A call whose answer is not told to the letter. -/
theorem LW.callE {all : Array Oper} {l : List Oper} {Q : Exit → Fr → Prop} {f : FuncId} {xs : List Operand} {us : List AV} {R : AV → Prop} (hg : o.guard = none) (hc : callOf o.op = some (f, xs)) (hus : xs.map (fun x => (fr.ev x).frz) = us) (hf : Fun P f us R) (hd : ∀ d, o.dst = some d → d < fr.n)
    (h : ∀ v g', R v → fr.g ≤ g' → ∃ fr', Fr.dst ⟨fr.s, g', fr.n⟩ o.dst v = some fr' ∧ LW P K all l fr' Q) : LW P K all (o :: l) fr Q := by
  obtain ⟨ys, ts, ho, hys⟩ := callOf_spec hc
  obtain ⟨⟨fn, cd, h1, h2, h3⟩, hcon⟩ := hf
  simp only at ho hys
  subst hys
  rw [← hus] at hcon
  refine LW.consE hg (OpE.call ho h1 h2 h3 hcon hd) fun fr' ⟨v, g', q1, q2, q3⟩ => ?_
  obtain ⟨f2, q4, q5⟩ := h v g' q1 q2
  rw [q3] at q4; cases q4; exact q5
end
theorem outR_4 (P : Program) (fr : Fr) (a b c d : Nat) (h : ([a, b, c, d] : List Nat).Nodup) : outR P fr [.tmp a, .tmp b, .tmp c, .tmp d] = some (.tup [fr.s a, fr.s b, fr.s c, fr.s d]) := by
  unfold outR
  simp only [List.map_cons, List.map_nil, outSlot]
  rw [if_pos h]
  rfl
theorem congr4 {a b c d a' b' c' d' : AV} (h1 : a = a') (h2 : b = b') (h3 : c = c') (h4 : d = d') : AV.tup [a, b, c, d] = .tup [a', b', c', d'] := by rw [h1, h2, h3, h4]
/-- Is a unit sound? -/
structure SoundP (u : Unt) : Prop where
  may : MayP u
  fn : ∀ (n : Nat) (f : Fn), u.funcs[n]? = some f → SndFn f
theorem int_beq0 (e : Int) : (e == 0) = decide (e = 0) := rfl
theorem frz_insr (x : Ins) : (AV.agg (insRow x)).frz = .agg (insRow x) := by rw [frz_cells, frz_insRow]
theorem frz_fnr (f : Fn) : (AV.agg (fnRow f)).frz = .agg (fnRow f) := by rw [frz_cells, frz_fnRow]
theorem frz_untr (u : Unt) : (AV.agg (untRow u)).frz = .agg (untRow u) := by rw [frz_cells, frz_untRow]
theorem fun54 (u : Unt) (hu : Modest u) : Fun Try.prog 54 [.agg (untRow u)] (fun r => ∃ a b c e : Int, r = .tup [.int .i64 a, .int .i64 b, .int .i64 c, .int .i64 e] ∧ (e = 0 ↔ SoundP u)) := by
  refine Fun.ok Try.func54 rfl (by rfl) 35 Try.ntmps54 (by rfl) fun hok K g0 => ?_
  simp -implicitDefEqProofs only [go_sem]
  refine AW.runs [] (by simp -implicitDefEqProofs only [go_sem]; rfl) (by trivial) ?_
  refine AW.seq ?_
  refine AW.runs [.bool (dec (MayP u))] (by simp -implicitDefEqProofs only [go_sem]; rfl) (ob1 ((fun23 u hu).obb)) ?_
  refine AW.if (by simp -implicitDefEqProofs only [go_sem]; rfl) (fun ht12 => ?_) (fun ht12 => ?_)
  · refine AW.runs [] (by simp -implicitDefEqProofs only [go_sem, ht12]; rfl) (by trivial) ?_
    exact AW.ret ⟨.inl rfl, _, outR_4 _ _ _ _ _ _ (by decide), _, _, _, _, congr4 (by simp -implicitDefEqProofs only [go_sem]; rfl) (by simp -implicitDefEqProofs only [go_sem]; rfl) (by simp -implicitDefEqProofs only [go_sem]; rfl) (by simp -implicitDefEqProofs only [go_sem]; rfl), ⟨fun h => absurd h (by decide), fun h => by have := dec_true.2 h.may; rw [this] at ht12; cases ht12⟩⟩
  · have hmay : MayP u := dec_true.1 (by simpa using ht12)
    refine AW.skip ?_
    show AW _ _ _ _ _
    refine AW.seq ?_
    refine AW.runs [] (by simp -implicitDefEqProofs only [go_sem, ht12]; rfl) (by trivial) ?_
    refine AW.block ?_
    refine AW.forH (X := Unit) (u.funcs.length) (fun i _ => [(1, .box g0 (untRow u)), (6, .int .i64 i)]) (fun i _ => ∀ j f, j < i → u.funcs[j]? = some f → SndFn f) 35 ⟨(), fun j f h => by omega, ⟨by simp -implicitDefEqProofs only [go_sem], by simp -implicitDefEqProofs only [go_sem, ht12]; try simp [ht12]⟩⟩ fun i _ g1 hii hinvi => ?_
    refine AW.seq ?_
    refine AW.runs [] (by simp -implicitDefEqProofs only [go_sem, ht12]; rfl) (by trivial) ?_
    refine AW.if (by simp -implicitDefEqProofs only [go_sem, ht12]; rfl) (fun ht17 => ?_) (fun ht17 => ?_)
    · have hlti : i < u.funcs.length := lt_dec ht17
      obtain ⟨f, hf⟩ := get_of_lt hlti
      refine AW.skip ?_
      show AW _ _ _ _ _
      refine AW.seq ?_
      refine AW.block ?_
      refine AW.seq (AW.region ?_)
      refine LW.split 5 [] (by simp -implicitDefEqProofs only [go_sem, ht12, ht17, hf]; rfl) (by trivial) ?_
      refine LW.callE rfl rfl (by simp -implicitDefEqProofs only [go_sem, frz_insr, frz_fnr, frz_untr]) (fun76 u i f (hmay.funcs i f hf).fn (hu.args f (List.mem_of_getElem? hf))) (dst_lt (by simp -implicitDefEqProofs only [go_sem])) (fun v g9 hR hg => ?_)
      obtain ⟨b9, i9, rfl⟩ := hR
      refine ⟨_, by simp -implicitDefEqProofs only [go_sem]; rfl, ?_⟩
      refine LW.split 7 [] (by simp -implicitDefEqProofs only [go_sem, ht12, ht17, hf]; rfl) (by trivial) ?_
      refine LW.nil ?_
      show AW _ _ _ _ _
      refine AW.runs [] (by simp -implicitDefEqProofs only [go_sem, ht12, ht17, hf]; rfl) (by trivial) ?_
      refine AW.if (by simp -implicitDefEqProofs only [go_sem, ht12, ht17, hf]; rfl) (fun ht31 => ?_) (fun ht31 => ?_)
      · refine AW.runs [] (by simp -implicitDefEqProofs only [go_sem, ht12, ht17, hf, ht31]; rfl) (by trivial) ?_
        exact AW.ret ⟨.inl rfl, _, outR_4 _ _ _ _ _ _ (by decide), _, _, _, _, congr4 (by simp -implicitDefEqProofs only [go_sem]; rfl) (by simp -implicitDefEqProofs only [go_sem]; rfl) (by simp -implicitDefEqProofs only [go_sem]; rfl) (by simp -implicitDefEqProofs only [go_sem]; rfl), ⟨fun h => absurd h (by decide), fun h => by have := dec_true.2 (h.fn i f hf); rw [this] at ht31; cases ht31⟩⟩
      · have hs : SndFn f := dec_true.1 (by simpa using ht31)
        refine AW.skip ?_
        show AW _ _ _ _ _
        refine AW.run [] (by simp -implicitDefEqProofs only [go_sem, ht12, ht17, hf, ht31]; rfl) (by trivial) ?_
        exact ⟨hlti, (), upto hinvi hf hs, ⟨by simp -implicitDefEqProofs only [go_sem], by simp -implicitDefEqProofs only [go_sem, ht12, ht17, hf, ht31, step_int i (Nat.lt_of_lt_of_le hlti (by have := hu.funcs; omega))]; try simp [ht12, ht17, hf, ht31, step_int i (Nat.lt_of_lt_of_le hlti (by have := hu.funcs; omega))]⟩⟩
    · refine AW.exit ?_
      show AW _ _ _ _ _
      refine AW.runs [] (by simp -implicitDefEqProofs only [go_sem, ht12, ht17]; rfl) (by trivial) ?_
      exact AW.ret ⟨.inl rfl, _, outR_4 _ _ _ _ _ _ (by decide), _, _, _, _, congr4 (by simp -implicitDefEqProofs only [go_sem]; rfl) (by simp -implicitDefEqProofs only [go_sem]; rfl) (by simp -implicitDefEqProofs only [go_sem]; rfl) (by simp -implicitDefEqProofs only [go_sem]), ⟨fun _ => ⟨hmay, fun n f hf => hinvi n f (by have := (List.getElem?_eq_some_iff.1 hf).1; have := ge_dec ht17; omega) hf⟩, fun _ => rfl⟩⟩
theorem fun16 (u : Unt) (hu : Modest u) : Fun Try.prog 16 [.agg (untRow u)] (fun r => r = .bool (dec (SoundP u))) := by
  refine Fun.ok Try.func16 rfl (by rfl) 16 Try.ntmps16 (by rfl) fun hok K g0 => ?_
  simp -implicitDefEqProofs only [go_sem]
  refine AW.runs [] (by simp -implicitDefEqProofs only [go_sem]; rfl) (by trivial) ?_
  refine AW.seq (AW.region ?_)
  refine LW.split 1 [] (by simp -implicitDefEqProofs only [go_sem]; rfl) (by trivial) ?_
  refine LW.callE rfl rfl (by simp -implicitDefEqProofs only [go_sem, frz_insr, frz_fnr, frz_untr]) (fun54 u hu) (dst_lt (by simp -implicitDefEqProofs only [go_sem])) (fun v g9 hR hg => ?_)
  obtain ⟨a9, b9, c9, e9, rfl, he9⟩ := hR
  refine ⟨_, by simp -implicitDefEqProofs only [go_sem]; rfl, ?_⟩
  refine LW.split 9 [] (by simp -implicitDefEqProofs only [go_sem]; rfl) (by trivial) ?_
  refine LW.nil ?_
  show AW _ _ _ _ _
  refine AW.runs [] (by simp -implicitDefEqProofs only [go_sem]; rfl) (by trivial) ?_
  exact AW.ret ⟨.inl rfl, _, rfl, Eq.trans (b := .bool (e9 == 0)) (by simp -implicitDefEqProofs only [go_sem]) (congrArg AV.bool (by rw [int_beq0, dec_decide]; exact dec_iff he9))⟩
/-- What is there anyway, and makes a virtual. -/
def stayOp (op : Int) : Bool := op == 4 || op == 5 || op == 37 || op == 42 || op == 43
def noneOp (op : Int) : Bool := op == 38 || op == 40 || op == 41 || op == 44 || op == 45
/-- What makes a virtual that it is there for. -/
def dceMakes (op : Int) : Bool := if stayOp op then false else if noneOp op then false else op != 46
def two101 (op : Int) : Bool := (decide (op ≥ 1) && decide (op ≤ 13)) || op == 38
def one101 (op : Int) : Bool := op == 14 || op == 15 || op == 36 || op == 37 || op == 40 || op == 44
def all101 (op : Int) : Bool := op == 42 || op == 47
/-- At what dce looks. -/
def dceLooks (x : Ins) : List Int := if two101 x.op then [x.a, x.b] else if one101 x.op then [x.a] else if all101 x.op then x.args else []
theorem one_row (n : Int) : [[AV.int .i64 n]] = [n].map intRow := rfl
theorem fun102 (x : Ins) : Fun Try.prog 102 [.agg (insRow x)] (fun r => r = .bool (stayOp x.op)) := by
  refine Fun.ok Try.func102 rfl (by rfl) 11 Try.ntmps102 (by rfl) fun hok K g0 => ?_
  simp -implicitDefEqProofs only [go_sem]
  refine AW.runs [] (by simp -implicitDefEqProofs only [go_sem]; rfl) (by trivial) ?_
  refine AW.seq ?_
  refine AW.runs [] (by simp -implicitDefEqProofs only [go_sem]; rfl) (by trivial) ?_
  refine AW.block ?_
  refine AW.join [(5, .bool (stayOp x.op))] 11 ?_ (fun g1 => ?_)
  · refine AW.runs [] (by simp -implicitDefEqProofs only [go_sem]; rfl) (by trivial) ?_
    refine AW.if (by simp -implicitDefEqProofs only [go_sem]; rfl) (fun ht5 => ?_) (fun ht5 => ?_)
    · refine AW.skip ?_
      exact ⟨by simp -implicitDefEqProofs only [go_sem], by simp -implicitDefEqProofs only [go_sem, ht5, stayOp]; try simp [ht5, stayOp]⟩
    · refine AW.runs [] (by simp -implicitDefEqProofs only [go_sem, ht5]; rfl) (by trivial) ?_
      refine AW.if (by simp -implicitDefEqProofs only [go_sem, ht5]; rfl) (fun ht5_2 => ?_) (fun ht5_2 => ?_)
      · refine AW.skip ?_
        exact ⟨by simp -implicitDefEqProofs only [go_sem], by simp -implicitDefEqProofs only [go_sem, ht5, ht5_2, stayOp]; try simp [ht5, ht5_2, stayOp]⟩
      · refine AW.runs [] (by simp -implicitDefEqProofs only [go_sem, ht5, ht5_2]; rfl) (by trivial) ?_
        refine AW.if (by simp -implicitDefEqProofs only [go_sem, ht5, ht5_2]; rfl) (fun ht5_3 => ?_) (fun ht5_3 => ?_)
        · refine AW.skip ?_
          exact ⟨by simp -implicitDefEqProofs only [go_sem], by simp -implicitDefEqProofs only [go_sem, ht5, ht5_2, ht5_3, stayOp]; try simp [ht5, ht5_2, ht5_3, stayOp]⟩
        · refine AW.runs [] (by simp -implicitDefEqProofs only [go_sem, ht5, ht5_2, ht5_3]; rfl) (by trivial) ?_
          refine AW.if (by simp -implicitDefEqProofs only [go_sem, ht5, ht5_2, ht5_3]; rfl) (fun ht5_4 => ?_) (fun ht5_4 => ?_)
          · refine AW.skip ?_
            exact ⟨by simp -implicitDefEqProofs only [go_sem], by simp -implicitDefEqProofs only [go_sem, ht5, ht5_2, ht5_3, ht5_4, stayOp]; try simp [ht5, ht5_2, ht5_3, ht5_4, stayOp]⟩
          · refine AW.run [] (by simp -implicitDefEqProofs only [go_sem, ht5, ht5_2, ht5_3, ht5_4]; rfl) (by trivial) ?_
            exact ⟨by simp -implicitDefEqProofs only [go_sem], by simp -implicitDefEqProofs only [go_sem, ht5, ht5_2, ht5_3, ht5_4, stayOp]; try simp [ht5, ht5_2, ht5_3, ht5_4, stayOp]⟩
  · refine AW.if (by simp -implicitDefEqProofs only [go_sem]; rfl) (fun ht5_5 => ?_) (fun ht5_5 => ?_)
    · refine AW.runs [] (by simp -implicitDefEqProofs only [go_sem, ht5_5]; rfl) (by trivial) ?_
      exact AW.ret ⟨.inl rfl, _, rfl, by simp -implicitDefEqProofs only [go_sem, ht5_5]⟩
    · refine AW.skip ?_
      show AW _ _ _ _ _
      refine AW.runs [] (by simp -implicitDefEqProofs only [go_sem, ht5_5]; rfl) (by trivial) ?_
      exact AW.ret ⟨.inl rfl, _, rfl, by simp -implicitDefEqProofs only [go_sem, ht5_5]⟩
theorem fun78 (x : Ins) : Fun Try.prog 78 [.agg (insRow x)] (fun r => r = .bool (dceMakes x.op)) := by
  refine Fun.ok Try.func78 rfl (by rfl) 20 Try.ntmps78 (by rfl) fun hok K g0 => ?_
  simp -implicitDefEqProofs only [go_sem]
  refine AW.runs [] (by simp -implicitDefEqProofs only [go_sem]; rfl) (by trivial) ?_
  refine AW.seq ?_
  refine AW.runs [] (by simp -implicitDefEqProofs only [go_sem]; rfl) (by trivial) ?_
  refine AW.block ?_
  refine AW.join [(1, .box g0 (insRow x)), (4, .int .u8 x.op), (5, .bool (stayOp x.op))] 20 ?_ (fun g1 => ?_)
  · refine AW.runs [] (by simp -implicitDefEqProofs only [go_sem]; rfl) (by trivial) ?_
    refine AW.if (by simp -implicitDefEqProofs only [go_sem]; rfl) (fun ht5 => ?_) (fun ht5 => ?_)
    · refine AW.skip ?_
      exact ⟨by simp -implicitDefEqProofs only [go_sem], by simp -implicitDefEqProofs only [go_sem, ht5, stayOp]; try simp [ht5, stayOp]⟩
    · refine AW.runs [] (by simp -implicitDefEqProofs only [go_sem, ht5]; rfl) (by trivial) ?_
      refine AW.if (by simp -implicitDefEqProofs only [go_sem, ht5]; rfl) (fun ht5_2 => ?_) (fun ht5_2 => ?_)
      · refine AW.skip ?_
        exact ⟨by simp -implicitDefEqProofs only [go_sem], by simp -implicitDefEqProofs only [go_sem, ht5, ht5_2, stayOp]; try simp [ht5, ht5_2, stayOp]⟩
      · refine AW.runs [] (by simp -implicitDefEqProofs only [go_sem, ht5, ht5_2]; rfl) (by trivial) ?_
        refine AW.if (by simp -implicitDefEqProofs only [go_sem, ht5, ht5_2]; rfl) (fun ht5_3 => ?_) (fun ht5_3 => ?_)
        · refine AW.skip ?_
          exact ⟨by simp -implicitDefEqProofs only [go_sem], by simp -implicitDefEqProofs only [go_sem, ht5, ht5_2, ht5_3, stayOp]; try simp [ht5, ht5_2, ht5_3, stayOp]⟩
        · refine AW.runs [] (by simp -implicitDefEqProofs only [go_sem, ht5, ht5_2, ht5_3]; rfl) (by trivial) ?_
          refine AW.if (by simp -implicitDefEqProofs only [go_sem, ht5, ht5_2, ht5_3]; rfl) (fun ht5_4 => ?_) (fun ht5_4 => ?_)
          · refine AW.skip ?_
            exact ⟨by simp -implicitDefEqProofs only [go_sem], by simp -implicitDefEqProofs only [go_sem, ht5, ht5_2, ht5_3, ht5_4, stayOp]; try simp [ht5, ht5_2, ht5_3, ht5_4, stayOp]⟩
          · refine AW.run [] (by simp -implicitDefEqProofs only [go_sem, ht5, ht5_2, ht5_3, ht5_4]; rfl) (by trivial) ?_
            exact ⟨by simp -implicitDefEqProofs only [go_sem], by simp -implicitDefEqProofs only [go_sem, ht5, ht5_2, ht5_3, ht5_4, stayOp]; try simp [ht5, ht5_2, ht5_3, ht5_4, stayOp]⟩
  · refine AW.if (by simp -implicitDefEqProofs only [go_sem]; rfl) (fun ht5_5 => ?_) (fun ht5_5 => ?_)
    · refine AW.runs [] (by simp -implicitDefEqProofs only [go_sem, ht5_5]; rfl) (by trivial) ?_
      exact AW.ret ⟨.inl rfl, _, rfl, by simp -implicitDefEqProofs only [go_sem, ht5_5, dceMakes]⟩
    · refine AW.join [(1, .box g0 (insRow x)), (11, .bool (noneOp x.op))] 20 ?_ (fun g2 => ?_)
      · refine AW.runs [] (by simp -implicitDefEqProofs only [go_sem, ht5_5]; rfl) (by trivial) ?_
        refine AW.if (by simp -implicitDefEqProofs only [go_sem, ht5_5]; rfl) (fun ht11 => ?_) (fun ht11 => ?_)
        · refine AW.skip ?_
          exact ⟨by simp -implicitDefEqProofs only [go_sem], by simp -implicitDefEqProofs only [go_sem, ht5_5, ht11, noneOp]; try simp [ht5_5, ht11, noneOp]⟩
        · refine AW.runs [] (by simp -implicitDefEqProofs only [go_sem, ht5_5, ht11]; rfl) (by trivial) ?_
          refine AW.if (by simp -implicitDefEqProofs only [go_sem, ht5_5, ht11]; rfl) (fun ht11_2 => ?_) (fun ht11_2 => ?_)
          · refine AW.skip ?_
            exact ⟨by simp -implicitDefEqProofs only [go_sem], by simp -implicitDefEqProofs only [go_sem, ht5_5, ht11, ht11_2, noneOp]; try simp [ht5_5, ht11, ht11_2, noneOp]⟩
          · refine AW.runs [] (by simp -implicitDefEqProofs only [go_sem, ht5_5, ht11, ht11_2]; rfl) (by trivial) ?_
            refine AW.if (by simp -implicitDefEqProofs only [go_sem, ht5_5, ht11, ht11_2]; rfl) (fun ht11_3 => ?_) (fun ht11_3 => ?_)
            · refine AW.skip ?_
              exact ⟨by simp -implicitDefEqProofs only [go_sem], by simp -implicitDefEqProofs only [go_sem, ht5_5, ht11, ht11_2, ht11_3, noneOp]; try simp [ht5_5, ht11, ht11_2, ht11_3, noneOp]⟩
            · refine AW.runs [] (by simp -implicitDefEqProofs only [go_sem, ht5_5, ht11, ht11_2, ht11_3]; rfl) (by trivial) ?_
              refine AW.if (by simp -implicitDefEqProofs only [go_sem, ht5_5, ht11, ht11_2, ht11_3]; rfl) (fun ht11_4 => ?_) (fun ht11_4 => ?_)
              · refine AW.skip ?_
                exact ⟨by simp -implicitDefEqProofs only [go_sem], by simp -implicitDefEqProofs only [go_sem, ht5_5, ht11, ht11_2, ht11_3, ht11_4, noneOp]; try simp [ht5_5, ht11, ht11_2, ht11_3, ht11_4, noneOp]⟩
              · refine AW.run [] (by simp -implicitDefEqProofs only [go_sem, ht5_5, ht11, ht11_2, ht11_3, ht11_4]; rfl) (by trivial) ?_
                exact ⟨by simp -implicitDefEqProofs only [go_sem], by simp -implicitDefEqProofs only [go_sem, ht5_5, ht11, ht11_2, ht11_3, ht11_4, noneOp]; try simp [ht5_5, ht11, ht11_2, ht11_3, ht11_4, noneOp]⟩
      · refine AW.if (by simp -implicitDefEqProofs only [go_sem, ht5_5]; rfl) (fun ht11_5 => ?_) (fun ht11_5 => ?_)
        · refine AW.runs [] (by simp -implicitDefEqProofs only [go_sem, ht5_5, ht11_5]; rfl) (by trivial) ?_
          exact AW.ret ⟨.inl rfl, _, rfl, by simp -implicitDefEqProofs only [go_sem, ht5_5, ht11_5, dceMakes]⟩
        · refine AW.skip ?_
          show AW _ _ _ _ _
          refine AW.runs [] (by simp -implicitDefEqProofs only [go_sem, ht5_5, ht11_5]; rfl) (by trivial) ?_
          exact AW.ret ⟨.inl rfl, _, rfl, by simp -implicitDefEqProofs only [go_sem, ht5_5, ht11_5, dceMakes]⟩
theorem fun101 (x : Ins) : Fun Try.prog 101 [.agg (insRow x)] (fun r => r.frz = .fz ((dceLooks x).map intRow)) := by
  refine Fun.ok Try.func101 rfl (by rfl) 51 Try.ntmps101 (by rfl) fun hok K g0 => ?_
  simp -implicitDefEqProofs only [go_sem]
  refine AW.runs [] (by simp -implicitDefEqProofs only [go_sem]; rfl) (by trivial) ?_
  refine AW.seq ?_
  refine AW.block ?_
  refine AW.join [(1, .box g0 (insRow x)), (3, .bool (two101 x.op))] 51 ?_ (fun g1 => ?_)
  · refine AW.join [(1, .box g0 (insRow x)), (3, .bool (decide (x.op ≥ 1) && decide (x.op ≤ 13)))] 51 ?_ (fun g2 => ?_)
    · cases c1 : decide (x.op ≥ 1)
      · refine AW.run [] (by simp -implicitDefEqProofs only [go_sem, c1]; rfl) (by trivial) ?_
        exact ⟨by simp -implicitDefEqProofs only [go_sem], by simp -implicitDefEqProofs only [go_sem, c1, Bool.true_and, Bool.false_and]; try simp [c1, Bool.true_and, Bool.false_and]⟩
      · refine AW.run [] (by simp -implicitDefEqProofs only [go_sem, c1]; rfl) (by trivial) ?_
        exact ⟨by simp -implicitDefEqProofs only [go_sem], by simp -implicitDefEqProofs only [go_sem, c1, Bool.true_and, Bool.false_and]; try simp [c1, Bool.true_and, Bool.false_and]⟩
    · refine AW.if (by simp -implicitDefEqProofs only [go_sem]; rfl) (fun ht3 => ?_) (fun ht3 => ?_)
      · refine AW.skip ?_
        exact ⟨by simp -implicitDefEqProofs only [go_sem], by simp -implicitDefEqProofs only [go_sem, ht3, two101]; try simp [ht3, two101]⟩
      · refine AW.run [] (by simp -implicitDefEqProofs only [go_sem, ht3]; rfl) (by trivial) ?_
        exact ⟨by simp -implicitDefEqProofs only [go_sem], by simp -implicitDefEqProofs only [go_sem, ht3, two101]; try simp [ht3, two101]⟩
  · refine AW.if (by simp -implicitDefEqProofs only [go_sem]; rfl) (fun ht3_2 => ?_) (fun ht3_2 => ?_)
    · refine AW.runs [] (by simp -implicitDefEqProofs only [go_sem, ht3_2]; rfl) (by trivial) ?_
      exact AW.ret ⟨.inl rfl, _, rfl, by simp -implicitDefEqProofs only [go_sem, ht3_2, dceLooks, List.map_cons, List.map_nil]⟩
    · refine AW.join [(1, .box g0 (insRow x)), (20, .bool (one101 x.op))] 51 ?_ (fun g3 => ?_)
      · refine AW.runs [] (by simp -implicitDefEqProofs only [go_sem, ht3_2]; rfl) (by trivial) ?_
        refine AW.if (by simp -implicitDefEqProofs only [go_sem, ht3_2]; rfl) (fun ht20 => ?_) (fun ht20 => ?_)
        · refine AW.skip ?_
          exact ⟨by simp -implicitDefEqProofs only [go_sem], by simp -implicitDefEqProofs only [go_sem, ht3_2, ht20, one101]; try simp [ht3_2, ht20, one101]⟩
        · refine AW.runs [] (by simp -implicitDefEqProofs only [go_sem, ht3_2, ht20]; rfl) (by trivial) ?_
          refine AW.if (by simp -implicitDefEqProofs only [go_sem, ht3_2, ht20]; rfl) (fun ht20_2 => ?_) (fun ht20_2 => ?_)
          · refine AW.skip ?_
            exact ⟨by simp -implicitDefEqProofs only [go_sem], by simp -implicitDefEqProofs only [go_sem, ht3_2, ht20, ht20_2, one101]; try simp [ht3_2, ht20, ht20_2, one101]⟩
          · refine AW.runs [] (by simp -implicitDefEqProofs only [go_sem, ht3_2, ht20, ht20_2]; rfl) (by trivial) ?_
            refine AW.if (by simp -implicitDefEqProofs only [go_sem, ht3_2, ht20, ht20_2]; rfl) (fun ht20_3 => ?_) (fun ht20_3 => ?_)
            · refine AW.skip ?_
              exact ⟨by simp -implicitDefEqProofs only [go_sem], by simp -implicitDefEqProofs only [go_sem, ht3_2, ht20, ht20_2, ht20_3, one101]; try simp [ht3_2, ht20, ht20_2, ht20_3, one101]⟩
            · refine AW.runs [] (by simp -implicitDefEqProofs only [go_sem, ht3_2, ht20, ht20_2, ht20_3]; rfl) (by trivial) ?_
              refine AW.if (by simp -implicitDefEqProofs only [go_sem, ht3_2, ht20, ht20_2, ht20_3]; rfl) (fun ht20_4 => ?_) (fun ht20_4 => ?_)
              · refine AW.skip ?_
                exact ⟨by simp -implicitDefEqProofs only [go_sem], by simp -implicitDefEqProofs only [go_sem, ht3_2, ht20, ht20_2, ht20_3, ht20_4, one101]; try simp [ht3_2, ht20, ht20_2, ht20_3, ht20_4, one101]⟩
              · refine AW.runs [] (by simp -implicitDefEqProofs only [go_sem, ht3_2, ht20, ht20_2, ht20_3, ht20_4]; rfl) (by trivial) ?_
                refine AW.if (by simp -implicitDefEqProofs only [go_sem, ht3_2, ht20, ht20_2, ht20_3, ht20_4]; rfl) (fun ht20_5 => ?_) (fun ht20_5 => ?_)
                · refine AW.skip ?_
                  exact ⟨by simp -implicitDefEqProofs only [go_sem], by simp -implicitDefEqProofs only [go_sem, ht3_2, ht20, ht20_2, ht20_3, ht20_4, ht20_5, one101]; try simp [ht3_2, ht20, ht20_2, ht20_3, ht20_4, ht20_5, one101]⟩
                · refine AW.run [] (by simp -implicitDefEqProofs only [go_sem, ht3_2, ht20, ht20_2, ht20_3, ht20_4, ht20_5]; rfl) (by trivial) ?_
                  exact ⟨by simp -implicitDefEqProofs only [go_sem], by simp -implicitDefEqProofs only [go_sem, ht3_2, ht20, ht20_2, ht20_3, ht20_4, ht20_5, one101]; try simp [ht3_2, ht20, ht20_2, ht20_3, ht20_4, ht20_5, one101]⟩
      · refine AW.if (by simp -implicitDefEqProofs only [go_sem, ht3_2]; rfl) (fun ht20_6 => ?_) (fun ht20_6 => ?_)
        · refine AW.runs [] (by simp -implicitDefEqProofs only [go_sem, ht3_2, ht20_6]; rfl) (by trivial) ?_
          exact AW.ret ⟨.inl rfl, _, rfl, by simp -implicitDefEqProofs only [go_sem, ht3_2, ht20_6, dceLooks, List.map_cons, List.map_nil]⟩
        · refine AW.join [(1, .box g0 (insRow x)), (42, .bool (all101 x.op))] 51 ?_ (fun g4 => ?_)
          · refine AW.runs [] (by simp -implicitDefEqProofs only [go_sem, ht3_2, ht20_6]; rfl) (by trivial) ?_
            refine AW.if (by simp -implicitDefEqProofs only [go_sem, ht3_2, ht20_6]; rfl) (fun ht42 => ?_) (fun ht42 => ?_)
            · refine AW.skip ?_
              exact ⟨by simp -implicitDefEqProofs only [go_sem], by simp -implicitDefEqProofs only [go_sem, ht3_2, ht20_6, ht42, all101]; try simp [ht3_2, ht20_6, ht42, all101]⟩
            · refine AW.run [] (by simp -implicitDefEqProofs only [go_sem, ht3_2, ht20_6, ht42]; rfl) (by trivial) ?_
              exact ⟨by simp -implicitDefEqProofs only [go_sem], by simp -implicitDefEqProofs only [go_sem, ht3_2, ht20_6, ht42, all101]; try simp [ht3_2, ht20_6, ht42, all101]⟩
          · refine AW.if (by simp -implicitDefEqProofs only [go_sem, ht3_2, ht20_6]; rfl) (fun ht42_2 => ?_) (fun ht42_2 => ?_)
            · refine AW.runs [] (by simp -implicitDefEqProofs only [go_sem, ht3_2, ht20_6, ht42_2]; rfl) (by trivial) ?_
              exact AW.ret ⟨.inl rfl, _, rfl, by simp -implicitDefEqProofs only [go_sem, ht3_2, ht20_6, ht42_2, dceLooks, List.map_cons, List.map_nil]⟩
            · refine AW.skip ?_
              show AW _ _ _ _ _
              refine AW.runs [] (by simp -implicitDefEqProofs only [go_sem, ht3_2, ht20_6, ht42_2]; rfl) (by trivial) ?_
              exact AW.ret ⟨.inl rfl, _, rfl, by simp -implicitDefEqProofs only [go_sem, ht3_2, ht20_6, ht42_2, dceLooks, List.map_cons, List.map_nil]⟩
end Go.Proofs.Ytgoajlgkbcongaa.Vm
end
section
set_option linter.unusedVariables false
set_option linter.unusedSimpArgs false
set_option maxRecDepth 100000
set_option maxHeartbeats 4000000
namespace Go.Proofs.Ytgoajlgkbcongaa.Vm
open Go Go.RowKit Go.Proofs
section
variable {P : Program} {K : Base} {fr : Fr} {Q : Exit → Fr → Prop}
/-- A function that is handed variables, from its code. -/
theorem FunR.of {f : FuncId} {fn : Func} {c : Code} {xs : List Ar} {R : AV → (Nat → List AV) → Prop} (hf : P.funcs[f]? = some fn) (hb : fn.body = some c) (hname : (fn.name == "runtime.NumGoroutine") = false) (n : Nat) (hn : fn.ntmps = n) (hl : (decide (xs.length ≤ n)) = true)
    (h : ∀ K g (ids : Nat → Nat), AW P K c (Fr.of ((argsR ids 0 xs).zipIdx.map fun p => (p.2, p.1)) g n) (fun e fr => (e = .ret ∨ e = .normal) ∧ ∃ v cs, outR P fr fn.results.toList = some v ∧ (∀ i c, xs[i]? = some (.b c) → fr.s i = .box (ids i) (cs i) ∧ i ∉ fn.results.toList.map outSlot) ∧ R v cs)) : FunR P f xs R :=
  ⟨fn, c, hf, hb, hname, by rw [hn]; exact of_decide_eq_true hl, fun K g ids => by rw [start_of, hn]; exact h K g ids⟩
def jumpQ (l : Nat) (R : Fr → Prop) (Q : Exit → Fr → Prop) : Exit → Fr → Prop
  | .goto l', f => l' = l ∧ R f
  | e, f => Q e f
theorem wp_scope_ghost {a : Act} {w : World} {Q : Exit → Act → World → Prop} {c rest : Code} (l : Nat) (J : Nat → Act → World → Prop) (hf : findLabel c l = some rest) (first : c.wp P (Exit.jump l (fun a w => ∃ n, J n a w) Q) a w)
    (pass : ∀ n a w, J n a w → rest.wp P (Exit.jump l (fun a' w' => ∃ m, m < n ∧ J m a' w') Q) a w) : (Code.scope c).wp P Q a w := by
  intro b k cs
  have hg : gotoIn l (.inScope c :: k) = some (.code rest :: .inScope c :: k) := by simp [gotoIn, hf]
  have key : ∀ n a w, J n a w → ∃ e a' w', Q e a' w' ∧ Arrives P (lone (b.at a (.code rest :: .inScope c :: k)) cs w) b k cs e a' w' := by
    intro n
    induction n using Nat.strongRecOn with
    | _ n ih =>
      intro a w hJ
      obtain ⟨e, a₁, w₁, hq, harr⟩ := pass n a w hJ b (.inScope c :: k) cs
      cases e with
      | normal => exact ⟨.normal, a₁, w₁, hq, Steps.trans harr (.one step_inScope)⟩
      | exit id => exact ⟨.exit id, a₁, w₁, hq, fun k' hk => harr k' (by simp [exitTo, hk])⟩
      | goto l' =>
        obtain ⟨rfl, m, hlt, hJ'⟩ := hq
        obtain ⟨e₂, a₂, w₂, hq₂, harr₂⟩ := ih m hlt a₁ w₁ hJ'
        exact ⟨e₂, a₂, w₂, hq₂, .of_steps (harr _ hg) harr₂⟩
      | ret => exact ⟨_, a₁, w₁, hq, harr⟩
      | panic ch => exact ⟨_, a₁, w₁, hq, harr⟩
      | outgrown => exact ⟨_, a₁, w₁, hq, harr⟩
  obtain ⟨e, a₁, w₁, hq, harr⟩ := first b (.inScope c :: k) cs
  cases e with
  | normal => exact ⟨.normal, a₁, w₁, hq, .head step_scope (Steps.trans harr (.one step_inScope))⟩
  | exit id => exact ⟨.exit id, a₁, w₁, hq, fun k' hk => .head step_scope (harr k' (by simp [exitTo, hk]))⟩
  | goto l' =>
    obtain ⟨rfl, n, hJ'⟩ := hq
    obtain ⟨e₂, a₂, w₂, hq₂, harr₂⟩ := key n a₁ w₁ hJ'
    exact ⟨e₂, a₂, w₂, hq₂, .of_steps (.head step_scope (harr _ hg)) harr₂⟩
  | ret => exact ⟨_, a₁, w₁, hq, .of_steps (.one step_scope) harr⟩
  | panic ch => exact ⟨_, a₁, w₁, hq, .of_steps (.one step_scope) harr⟩
  | outgrown => exact ⟨_, a₁, w₁, hq, .of_steps (.one step_scope) harr⟩
/-- A scope with one label to which jumps lead back. -/
theorem AW.scope {X : Type} {c tail : Code} (l : Nat) (hf : findLabel c l = some (.seq .skip tail)) (M : X → Nat) (L : X → List (Nat × AV)) (inv : X → Prop) (n : Nat)
    (pass : ∀ x g, inv x → AW P K tail (Fr.of (L x) g n) (jumpQ l (fun f => ∃ x', M x' < M x ∧ inv x' ∧ f.Has (L x') n) Q))
    (first : (∀ x g, inv x → AW P K tail (Fr.of (L x) g n) (jumpQ l (fun f => ∃ x', inv x' ∧ f.Has (L x') n) Q)) → AW P K c fr (jumpQ l (fun f => ∃ x', inv x' ∧ f.Has (L x') n) Q)) : AW P K (.scope c) fr Q := by
  have first := first fun x g hx => (pass x g hx).mono fun e f h => by
    cases e with
    | goto k => exact ⟨h.1, let ⟨x', _, h2⟩ := h.2; ⟨x', h2⟩⟩
    | normal => exact h
    | exit id => exact h
    | ret => exact h
    | panic ch => exact h
    | outgrown => exact h
  intro a w hs
  refine wp_scope_ghost l (fun m a w => ∃ x g f, m = M x ∧ inv x ∧ f.Le (Fr.of (L x) g n) ∧ St K f a w) hf (wp_mono (first a w hs) ?_) ?_
  · rintro e a' w' ⟨f, h1, h2⟩
    cases e with
    | goto k => obtain ⟨h3, x, hx, hh⟩ := h1; exact ⟨h3, M x, x, _, f, rfl, hx, hh.le, h2⟩
    | normal => exact ⟨f, h1, h2⟩
    | exit id => exact ⟨f, h1, h2⟩
    | ret => exact ⟨f, h1, h2⟩
    | panic ch => exact ⟨f, h1, h2⟩
    | outgrown => exact ⟨f, h1, h2⟩
  · rintro m a w ⟨x, g, f, rfl, hx, hle, hst⟩
    refine wp_mono (AW.seq (AW.skip (pass x g hx)) a w (hst.weak hle)) ?_
    rintro e a' w' ⟨f, h1, h2⟩
    cases e with
    | goto k => obtain ⟨h3, x', hlt, hx', hh⟩ := h1; exact ⟨h3, M x', hlt, x', _, f, rfl, hx', hh.le, h2⟩
    | normal => exact ⟨f, h1, h2⟩
    | exit id => exact ⟨f, h1, h2⟩
    | ret => exact ⟨f, h1, h2⟩
    | panic ch => exact ⟨f, h1, h2⟩
    | outgrown => exact ⟨f, h1, h2⟩
theorem AW.label_seq {l : Nat} {y : Code} (h : AW P K y fr Q) : AW P K (.seq (.label l) y) fr Q := AW.seq (AW.label h)
end
/-- One that is looked at is needed. -/
def needV (s : List Bool × List Int) (v : Int) : List Bool × List Int := if decide (v ≥ 0) && !(s.1.getD v.toNat true) then (s.1.set v.toNat true, s.2 ++ [v]) else s
def needL (s : List Bool × List Int) (l : List Int) : List Bool × List Int := l.foldl needV s
theorem needV_len (s : List Bool × List Int) (v : Int) : (needV s v).1.length = s.1.length := by unfold needV; split <;> simp
theorem needL_len : ∀ (l : List Int) (s : List Bool × List Int), (needL s l).1.length = s.1.length
  | [], s => rfl
  | v :: l, s => by show (needL (needV s v) l).1.length = _; rw [needL_len l, needV_len]
/-- What waits and what is not needed yet: together as many as before. -/
theorem needV_sum {s : List Bool × List Int} {v : Int} : (needV s v).2.length + (needV s v).1.count false = s.2.length + s.1.count false := by
  unfold needV
  split
  · rename_i h
    simp only [Bool.and_eq_true, Bool.not_eq_true'] at h
    have hf : s.1[v.toNat]? = some false := by
      have h2 := h.2
      rw [List.getD_eq_getElem?_getD] at h2
      cases hq : s.1[v.toNat]? with
      | none => rw [hq] at h2; cases h2
      | some b => rw [hq] at h2; simpa using h2
    have := count_set hf
    simp only [List.length_append, List.length_cons, List.length_nil]
    omega
  · rfl
theorem needL_sum : ∀ (l : List Int) (s : List Bool × List Int), (needL s l).2.length + (needL s l).1.count false = s.2.length + s.1.count false
  | [], s => rfl
  | v :: l, s => by show (needL (needV s v) l).2.length + (needL (needV s v) l).1.count false = _; rw [needL_sum l, needV_sum]
theorem needL_snoc {s : List Bool × List Int} {l : List Int} {i : Nat} {v : Int} (h : l[i]? = some v) : needL s (l.take (i + 1)) = needV (needL s (l.take i)) v := foldl_take _ _ h
theorem needL_app (s : List Bool × List Int) (a b : List Int) : needL (needL s a) b = needL s (a ++ b) := by unfold needL; rw [List.foldl_append]
theorem fun100 (out : List Bool) (work l : List Int) (ido idw : Nat) (hl : l.length ≤ 1099511627776) (ho : out.length ≤ 1048576) (hw : work.length + out.count false ≤ 1048576) (hr : ∀ v ∈ l, v < (out.length : Int)) : FunR Try.prog 100 [.v (.fz (l.map intRow)), .b [.own ido 1 (out.map boolRow)], .b [.own idw 1 (work.map intRow)]] (fun v cs => cs 1 = [.own ido 1 ((needL (out, work) l).1.map boolRow)] ∧ ∃ idw2, cs 2 = [.own idw2 1 ((needL (out, work) l).2.map intRow)]) := by
  refine FunR.of Try.func100 rfl (by rfl) 29 Try.ntmps100 (by rfl) fun K g0 ids => ?_
  simp -implicitDefEqProofs only [go_sem, argsR, Ar.av]
  refine AW.runs [] (by simp -implicitDefEqProofs only [go_sem]; rfl) (by trivial) ?_
  refine AW.block ?_
  refine AW.forH (X := Nat) (l.length) (fun i x => [(1, .box (ids 1) [.own ido 1 ((needL (out, work) (l.take i)).1.map boolRow)]), (2, .box (ids 2) [.own x 1 ((needL (out, work) (l.take i)).2.map intRow)]), (6, .fz (l.map intRow)), (7, .int .i64 l.length), (8, .int .i64 i)]) (fun i x => True) 29 ⟨idw, trivial, ⟨by simp -implicitDefEqProofs only [go_sem], by simp -implicitDefEqProofs only [go_sem, List.take_zero, needL, List.foldl_nil]; try simp [List.take_zero, needL, List.foldl_nil]⟩⟩ fun i x g1 hii hinvi => ?_
  refine AW.runs [] (by simp -implicitDefEqProofs only [go_sem]; rfl) (by trivial) ?_
  refine AW.seq ?_
  refine AW.if (by simp -implicitDefEqProofs only [go_sem]; rfl) (fun ht9 => ?_) (fun ht9 => ?_)
  · have hlti : i < l.length := lt_dec ht9
    obtain ⟨v, hv⟩ := get_of_lt hlti
    refine AW.skip ?_
    show AW _ _ _ _ _
    refine AW.seq ?_
    refine AW.block ?_
    refine AW.runs [] (by simp -implicitDefEqProofs only [go_sem, ht9, hv]; rfl) (by trivial) ?_
    cases c1 : decide (v ≥ 0)
    · have hst : needL (out, work) (l.take (i + 1)) = needL (out, work) (l.take i) := by rw [needL_snoc hv]; unfold needV; rw [c1]; rfl
      refine AW.runs [] (by simp -implicitDefEqProofs only [go_sem, ht9, hv, c1]; rfl) (by trivial) ?_
      refine AW.if (by simp -implicitDefEqProofs only [go_sem, ht9, hv, c1]; rfl) (fun h => absurd h (by simp)) (fun _ => ?_)
      refine AW.skip ?_
      show AW _ _ _ _ _
      refine AW.run [] (by simp -implicitDefEqProofs only [go_sem, ht9, hv, c1]; rfl) (by trivial) ?_
      exact ⟨hlti, x, trivial, ⟨by simp -implicitDefEqProofs only [go_sem], by simp -implicitDefEqProofs only [go_sem, ht9, hv, c1, step_int i (Nat.lt_of_lt_of_le hlti (by omega)), hst]; try simp [ht9, hv, c1, step_int i (Nat.lt_of_lt_of_le hlti (by omega)), hst]⟩⟩
    · obtain ⟨k, hk⟩ := Int.eq_ofNat_of_zero_le (of_decide_eq_true c1)
      have hkl : k < (needL (out, work) (l.take i)).1.length := by rw [needL_len]; have := hr v (List.mem_of_getElem? hv); simp only; omega
      obtain ⟨b, hb⟩ := get_of_lt hkl
      refine AW.runs [] (by simp -implicitDefEqProofs only [go_sem, ht9, hv, c1, hk, nn, hkl, hb]; rfl) (by trivial) ?_
      refine AW.if (by simp -implicitDefEqProofs only [go_sem, ht9, hv, c1, hk, nn, hkl, hb]; rfl) (fun ht20 => ?_) (fun ht20 => ?_)
      · have hbf : b = false := by simpa using ht20
        have hst : needL (out, work) (l.take (i + 1)) = ((needL (out, work) (l.take i)).1.set k true, (needL (out, work) (l.take i)).2 ++ [(k : Int)]) := by rw [needL_snoc hv]; unfold needV; rw [c1, hk, Int.toNat_natCast, getD_of hb, hbf]; rfl
        refine AW.runs [] (by simp -implicitDefEqProofs only [go_sem, ht9, hv, c1, hk, nn, hkl, hb, ht20]; rfl) (by trivial) ?_
        have hwb : ((needL (out, work) (l.take i)).2.length + 1) * 8 ≤ 140737488355328 := by have := needL_sum (l.take i) (out, work); simp only at this; omega
        refine AW.run [] (by simp -implicitDefEqProofs only [go_sem, ht9, hv, c1, hk, nn, hkl, hb, ht20, hwb]; rfl) (by trivial) ?_
        show AW _ _ _ _ _
        refine AW.run [] (by simp -implicitDefEqProofs only [go_sem, ht9, hv, c1, hk, nn, hkl, hb, ht20, hwb]; rfl) (by trivial) ?_
        exact ⟨hlti, (g1 + 1), trivial, ⟨by simp -implicitDefEqProofs only [go_sem], by simp -implicitDefEqProofs only [go_sem, ht9, hv, c1, hk, nn, hkl, hb, ht20, hwb, step_int i (Nat.lt_of_lt_of_le hlti (by omega)), hst]; try simp [ht9, hv, c1, hk, nn, hkl, hb, ht20, hwb, step_int i (Nat.lt_of_lt_of_le hlti (by omega)), hst]⟩⟩
      · have hbf : b = true := by simpa using ht20
        have hst : needL (out, work) (l.take (i + 1)) = needL (out, work) (l.take i) := by rw [needL_snoc hv]; unfold needV; rw [c1, hk, Int.toNat_natCast, getD_of hb, hbf]; rfl
        refine AW.skip ?_
        show AW _ _ _ _ _
        refine AW.run [] (by simp -implicitDefEqProofs only [go_sem, ht9, hv, c1, hk, nn, hkl, hb, ht20]; rfl) (by trivial) ?_
        exact ⟨hlti, x, trivial, ⟨by simp -implicitDefEqProofs only [go_sem], by simp -implicitDefEqProofs only [go_sem, ht9, hv, c1, hk, nn, hkl, hb, ht20, step_int i (Nat.lt_of_lt_of_le hlti (by omega)), hst]; try simp [ht9, hv, c1, hk, nn, hkl, hb, ht20, step_int i (Nat.lt_of_lt_of_le hlti (by omega)), hst]⟩⟩
  · have hie := ge_dec ht9
    rw [List.take_of_length_le hie]
    refine AW.exit ?_
    refine ⟨.inr rfl, .tup [], fun k => if k = 1 then [.own ido 1 ((needL (out, work) l).1.map boolRow)] else [.own x 1 ((needL (out, work) l).2.map intRow)], rfl, fun j c hj => ?_, by simp, x, by simp⟩
    match j, hj with
    | 1, _ => exact ⟨by simp -implicitDefEqProofs only [go_sem], by simp [Try.f100]⟩
    | 2, _ => exact ⟨by simp -implicitDefEqProofs only [go_sem], by simp [Try.f100]⟩
end Go.Proofs.Ytgoajlgkbcongaa.Vm
end
section
set_option linter.unusedVariables false
set_option linter.unusedSimpArgs false
set_option maxRecDepth 100000
set_option maxHeartbeats 4000000
namespace Go.Proofs.Ytgoajlgkbcongaa.Vm
open Go Go.RowKit Go.Proofs
/-- What is reached from roots. -/
inductive ReachB (by_ : Nat → List Int) (rts : List Int) : Nat → Prop where
  | root {v : Nat} (h : (v : Int) ∈ rts) : ReachB by_ rts v
  | step {u v : Nat} (h : ReachB by_ rts u) (hv : (v : Int) ∈ by_ u) : ReachB by_ rts v
theorem needV_at {s : List Bool × List Int} {v : Int} (hv : v < (s.1.length : Int)) (k : Nat) : (needV s v).1[k]? = some true ↔ s.1[k]? = some true ∨ (k : Int) = v := by
  unfold needV
  split
  · rename_i h
    simp only [Bool.and_eq_true, decide_eq_true_eq] at h
    rw [List.getElem?_set]
    by_cases e : v.toNat = k
    · rw [if_pos e]
      have : v.toNat < s.1.length := by omega
      rw [if_pos this]
      simp
      right; omega
    · rw [if_neg e]
      exact ⟨.inl, fun h2 => h2.resolve_right (by omega)⟩
  · rename_i h
    refine ⟨.inl, fun h2 => h2.elim id fun e => ?_⟩
    subst e
    simp only [Bool.and_eq_true, decide_eq_true_eq, Bool.not_eq_true', not_and, Int.toNat_natCast] at h
    have := h (by omega)
    rw [List.getD_eq_getElem?_getD] at this
    cases hq : s.1[k]? with
    | none => have := List.getElem?_eq_none_iff.1 hq; omega
    | some b => rw [hq] at this; simp at this; rw [this]
theorem needV_work {s : List Bool × List Int} {v : Int} : (∀ w ∈ s.2, w ∈ (needV s v).2) ∧ (∀ w ∈ (needV s v).2, w ∈ s.2 ∨ (w = v ∧ 0 ≤ v)) ∧ ∀ k : Nat, (needV s v).1[k]? = some true → s.1[k]? = some true ∨ (k : Int) ∈ (needV s v).2 := by
  unfold needV
  split
  · rename_i h
    simp only [Bool.and_eq_true, decide_eq_true_eq] at h
    refine ⟨fun w hw => by simp [hw], fun w hw => ?_, fun k hk => ?_⟩
    · rcases List.mem_append.1 hw with h1 | h1
      · exact .inl h1
      · exact .inr ⟨List.mem_singleton.1 h1, h.1⟩
    · rw [List.getElem?_set] at hk
      by_cases e : v.toNat = k
      · right
        rw [List.mem_append]; right
        rw [List.mem_singleton]; omega
      · rw [if_neg e] at hk; exact .inl hk
  · exact ⟨fun w hw => hw, fun w hw => .inl hw, fun k hk => .inl hk⟩
theorem needL_at : ∀ (l : List Int) {s : List Bool × List Int}, (∀ v ∈ l, v < (s.1.length : Int)) → ∀ k : Nat, (needL s l).1[k]? = some true ↔ s.1[k]? = some true ∨ (k : Int) ∈ l
  | [], s, h, k => by simp [needL]
  | v :: l, s, h, k => by
    show (needL (needV s v) l).1[k]? = some true ↔ _
    rw [needL_at l (by rw [needV_len]; exact fun w hw => h w (by simp [hw])), needV_at (h v (by simp))]
    simp only [List.mem_cons]
    constructor
    · rintro ((h1 | h1) | h1)
      · exact .inl h1
      · exact .inr (.inl h1)
      · exact .inr (.inr h1)
    · rintro (h1 | h1 | h1)
      · exact .inl (.inl h1)
      · exact .inl (.inr h1)
      · exact .inr h1
theorem needL_work : ∀ (l : List Int) {s : List Bool × List Int}, (∀ w ∈ s.2, w ∈ (needL s l).2) ∧ (∀ w ∈ (needL s l).2, w ∈ s.2 ∨ (w ∈ l ∧ 0 ≤ w)) ∧ ∀ k : Nat, (needL s l).1[k]? = some true → s.1[k]? = some true ∨ (k : Int) ∈ (needL s l).2
  | [], s => ⟨fun w hw => hw, fun w hw => .inl hw, fun k hk => .inl hk⟩
  | v :: l, s => by
    obtain ⟨a1, a2, a3⟩ := needV_work (s := s) (v := v)
    obtain ⟨b1, b2, b3⟩ := needL_work l (s := needV s v)
    refine ⟨fun w hw => b1 w (a1 w hw), fun w hw => ?_, fun k hk => ?_⟩
    · rcases b2 w hw with h | ⟨h, h0⟩
      · rcases a2 w h with h | ⟨rfl, h0⟩
        · exact .inl h
        · exact .inr ⟨by simp, h0⟩
      · exact .inr ⟨by simp [h], h0⟩
    · rcases b3 k hk with h | h
      · rcases a3 k h with h | h
        · exact .inl h
        · exact .inr (b1 _ h)
      · exact .inr h
structure PI (N : Nat) (by_ : Nat → List Int) (rts : List Int) (out : List Bool) (work : List Int) : Prop where
  len : out.length = N
  wk : ∀ v ∈ work, ∃ k : Nat, v = (k : Int) ∧ out[k]? = some true
  snd : ∀ k : Nat, out[k]? = some true → ReachB by_ rts k
  cl : ∀ k : Nat, out[k]? = some true → (k : Int) ∈ work ∨ ∀ v ∈ by_ k, 0 ≤ v → out[v.toNat]? = some true
  rt : ∀ v ∈ rts, 0 ≤ v → out[v.toNat]? = some true
  sum : work.length + out.count false ≤ N
theorem PI.init {N : Nat} {by_ : Nat → List Int} {rts : List Int} (h : ∀ v ∈ rts, v < (N : Int)) : PI N by_ rts (needL (List.replicate N false, []) rts).1 (needL (List.replicate N false, []) rts).2 := by
  have h' : ∀ v ∈ rts, v < (((List.replicate N false, ([] : List Int)).1).length : Int) := by simpa using h
  have hat := needL_at rts h'
  have hfal : ∀ k : Nat, (List.replicate N false)[k]? ≠ some true := fun k => by rw [List.getElem?_replicate]; split <;> simp
  obtain ⟨b1, b2, b3⟩ := needL_work rts (s := (List.replicate N false, []))
  refine ⟨by rw [needL_len]; simp, fun v hv => ?_, fun k hk => ?_, fun k hk => ?_, fun v hv h0 => ?_, ?_⟩
  · rcases b2 v hv with h1 | ⟨h1, h0⟩
    · cases h1
    · obtain ⟨k, rfl⟩ := Int.eq_ofNat_of_zero_le h0
      exact ⟨k, rfl, (hat k).2 (.inr h1)⟩
  · exact .root (((hat k).1 hk).resolve_left (hfal k))
  · exact .inl ((b3 k hk).resolve_left (hfal k))
  · obtain ⟨k, rfl⟩ := Int.eq_ofNat_of_zero_le h0
    exact (hat k).2 (.inr hv)
  · have := needL_sum rts (List.replicate N false, [])
    simp [List.count_replicate] at this
    omega
theorem PI.pop {N : Nat} {by_ : Nat → List Int} {rts : List Int} {out : List Bool} {work : List Int} {k : Nat} (h : PI N by_ rts out (work ++ [(k : Int)])) (hb : ∀ v ∈ by_ k, v < (N : Int)) :
    PI N by_ rts (needL (out, work) (by_ k)).1 (needL (out, work) (by_ k)).2 ∧ (needL (out, work) (by_ k)).1.count false + (needL (out, work) (by_ k)).2.length < out.count false + (work ++ [(k : Int)]).length := by
  have h' : ∀ v ∈ by_ k, v < (((out, work).1).length : Int) := by simpa [h.len] using hb
  have hat := needL_at (by_ k) h'
  have hk : out[k]? = some true := by obtain ⟨k', e, hk'⟩ := h.wk k (by simp); obtain rfl : k' = k := by omega
                                      exact hk'
  obtain ⟨b1, b2, b3⟩ := needL_work (by_ k) (s := (out, work))
  have hs := needL_sum (by_ k) (out, work)
  simp only at hs b1 b2 b3 hat
  refine ⟨⟨by rw [needL_len]; exact h.len, fun v hv => ?_, fun u hu => ?_, fun u hu => ?_, fun v hv h0 => ?_, ?_⟩, by simp only [List.length_append, List.length_cons, List.length_nil]; omega⟩
  · rcases b2 v hv with h1 | ⟨h1, h0⟩
    · obtain ⟨q, e, hq⟩ := h.wk v (by simp [h1])
      exact ⟨q, e, (hat q).2 (.inl hq)⟩
    · obtain ⟨q, rfl⟩ := Int.eq_ofNat_of_zero_le h0
      exact ⟨q, rfl, (hat q).2 (.inr h1)⟩
  · rcases (hat u).1 hu with h1 | h1
    · exact h.snd u h1
    · exact .step (h.snd k hk) h1
  · rcases b3 u hu with h1 | h1
    · rcases h.cl u h1 with h2 | h2
      · rcases List.mem_append.1 h2 with h3 | h3
        · exact .inl (b1 _ h3)
        · right
          have : u = k := by have := List.mem_singleton.1 h3; omega
          subst this
          intro v hv h0
          obtain ⟨q, rfl⟩ := Int.eq_ofNat_of_zero_le h0
          exact (hat q).2 (.inr hv)
      · right
        intro v hv h0
        have := h2 v hv h0
        obtain ⟨q, rfl⟩ := Int.eq_ofNat_of_zero_le h0
        exact (hat q).2 (.inl this)
    · exact .inl h1
  · have := h.rt v hv h0
    obtain ⟨q, rfl⟩ := Int.eq_ofNat_of_zero_le h0
    exact (hat q).2 (.inl this)
  · have := h.sum
    simp only [List.length_append, List.length_cons, List.length_nil] at this
    omega
theorem PI.done {N : Nat} {by_ : Nat → List Int} {rts : List Int} {out : List Bool} (h : PI N by_ rts out []) (k : Nat) : out[k]? = some true ↔ ReachB by_ rts k := by
  refine ⟨h.snd k, fun hr => ?_⟩
  induction hr with
  | root hv => have := h.rt _ hv (by omega); simpa using this
  | step hu hv ih =>
    rcases h.cl _ ih with h1 | h1
    · cases h1
    · have := h1 _ hv (by omega); simpa using this
def preTo (f : Fn) (b : Nat) : List Ins := (f.blocks.take b).flatMap (·.ins)
def insRoots (x : Ins) : List Int := if dceMakes x.op then [] else if x.op != 46 then dceLooks x else []
def termRoots (t : Term) : List Int := if t.kind != 1 then [t.a] else []
def blkRoots (b : Block) : List Int := b.ins.flatMap insRoots ++ termRoots b.term
def rootsTo (f : Fn) (b : Nat) : List Int := (f.blocks.take b).flatMap blkRoots
def byL (pre : List Ins) (d : Nat) : List Int := (pre.filter fun x => dceMakes x.op && (x.dst == (d : Int))).flatMap dceLooks
def byW (N : Nat) (pre : List Ins) : List (List Int) := (List.range N).map (byL pre)
def allIns (f : Fn) : List Ins := f.blocks.flatMap (·.ins)
def roots (f : Fn) : List Int := f.blocks.flatMap blkRoots
def ndOf (N : Nat) (l : List Int) : List Bool × List Int := needL (List.replicate N false, []) l
theorem byL_snoc_n {pre : List Ins} {x : Ins} {d : Nat} (h : (dceMakes x.op && (x.dst == (d : Int))) = false) : byL (pre ++ [x]) d = byL pre d := by
  unfold byL; rw [List.filter_append]; simp [h]
theorem byL_snoc_m {pre : List Ins} {x : Ins} {d : Nat} (h : (dceMakes x.op && (x.dst == (d : Int))) = true) : byL (pre ++ [x]) d = byL pre d ++ dceLooks x := by
  unfold byL
  rw [List.filter_append, List.flatMap_append]
  have : [x].filter (fun x => dceMakes x.op && (x.dst == (d : Int))) = [x] := by rw [List.filter_cons, if_pos h]; rfl
  rw [this]; simp
theorem byW_n {N : Nat} {pre : List Ins} {x : Ins} (h : dceMakes x.op = false) : byW N (pre ++ [x]) = byW N pre := List.map_congr_left fun d _ => byL_snoc_n (by rw [h]; rfl)
theorem byW_m {N : Nat} {pre : List Ins} {x : Ins} {k : Nat} (h : dceMakes x.op = true) (hd : x.dst = (k : Int)) : byW N (pre ++ [x]) = (byW N pre).set k (byL pre k ++ dceLooks x) := by
  unfold byW
  refine List.ext_getElem? fun j => ?_
  rw [List.getElem?_set, List.getElem?_map, List.getElem?_map, List.length_map]
  by_cases e : k = j
  · subst e
    rw [if_pos rfl, List.length_range]
    by_cases hlt : k < N
    · rw [List.getElem?_range hlt, if_pos hlt]
      exact congrArg some (byL_snoc_m (by rw [h, hd]; simp))
    · rw [List.getElem?_eq_none (by simp; omega), if_neg hlt]; rfl
  · rw [if_neg e]
    rcases Nat.lt_or_ge j N with hlt | hlt
    · rw [List.getElem?_range hlt]
      exact congrArg some (byL_snoc_n (by rw [hd]; simp; omega))
    · rw [List.getElem?_eq_none (by simp; omega)]; rfl
theorem byW_at {N : Nat} {pre : List Ins} {k : Nat} {w : List Int} (h : (byW N pre)[k]? = some w) : w = byL pre k := by
  unfold byW at h
  rw [List.getElem?_map] at h
  obtain ⟨q, h1, h2⟩ := Option.map_eq_some_iff.1 h
  have := (List.getElem?_eq_some_iff.1 h1)
  obtain ⟨h3, h4⟩ := this
  simp at h4
  rw [← h2, ← h4]
theorem byW_len (N : Nat) (pre : List Ins) : (byW N pre).length = N := by simp [byW]
theorem byL_lenB {d B : Nat} : ∀ (pre : List Ins), (∀ x ∈ pre, (dceLooks x).length ≤ B) → (byL pre d).length ≤ pre.length * B
  | [], h => by simp [byL]
  | x :: pre, h => by
    have ih := byL_lenB (d := d) pre fun y hy => h y (by simp [hy])
    have hx := h x (by simp)
    unfold byL at ih ⊢
    rw [List.filter_cons, List.length_cons, Nat.succ_mul]
    split
    · rw [List.flatMap_cons, List.length_append]; omega
    · omega
theorem byL_len {d : Nat} (pre : List Ins) (h : ∀ x ∈ pre, (dceLooks x).length ≤ 1048576) : (byL pre d).length ≤ pre.length * 1048576 := byL_lenB pre h
theorem byL_mem {pre : List Ins} {d : Nat} {v : Int} : v ∈ byL pre d ↔ ∃ x ∈ pre, dceMakes x.op = true ∧ x.dst = (d : Int) ∧ v ∈ dceLooks x := by
  unfold byL
  simp only [List.mem_flatMap, List.mem_filter, Bool.and_eq_true, beq_iff_eq]
  exact ⟨fun ⟨x, ⟨h1, h2, h3⟩, h4⟩ => ⟨x, h1, h2, h3, h4⟩, fun ⟨x, h1, h2, h3, h4⟩ => ⟨x, ⟨h1, h2, h3⟩, h4⟩⟩
theorem fm_take {α β : Type} {l : List α} {i : Nat} {x : α} (g : α → List β) (h : l[i]? = some x) : (l.take (i + 1)).flatMap g = (l.take i).flatMap g ++ g x := by
  rw [List.take_add_one, h, List.flatMap_append]; simp
theorem take_snoc {α : Type} {l : List α} {i : Nat} {x : α} (h : l[i]? = some x) : l.take (i + 1) = l.take i ++ [x] := by rw [List.take_add_one, h]; rfl
theorem preTo_len (f : Fn) (b : Nat) : (preTo f b).length = insTo f b := by unfold preTo insTo; rw [List.length_flatMap]
/-- What dce asks of a function. -/
structure DceOk (f : Fn) (N : Nat) : Prop where
  size : f.size = (N : Int)
  small : N ≤ 524288
  blocks : f.blocks.length ≤ 2000
  many : insTo f f.blocks.length ≤ 524288
  args : ArgsLe f
  dst : ∀ b ∈ f.blocks, ∀ x ∈ b.ins, dceMakes x.op = true → 0 ≤ x.dst ∧ x.dst < (N : Int)
  looks : ∀ b ∈ f.blocks, ∀ x ∈ b.ins, ∀ v ∈ dceLooks x, v < (N : Int)
  term : ∀ b ∈ f.blocks, b.term.kind ≠ 1 → b.term.a < (N : Int)
theorem looks_len {x : Ins} (h : x.args.length ≤ 1048576) : (dceLooks x).length ≤ 1048576 := by
  unfold dceLooks
  repeat' split
  all_goals first | (simp only [List.length_cons, List.length_nil]; omega) | exact h
def stayHere (n : Int) (x : Ins) : Bool := if dceMakes x.op then false else if x.op != 46 then (if decide (x.dst ≥ 0) then (if decide (x.dst < n) then stayOp x.op else false) else false) else false
def stayV (n : Int) (o : List Bool) (x : Ins) : List Bool := if stayHere n x then o.set x.dst.toNat true else o
def stayL (n : Int) (o : List Bool) (l : List Ins) : List Bool := l.foldl (stayV n) o
theorem stayHere_t {n : Int} {x : Ins} (h : stayHere n x = true) : 0 ≤ x.dst ∧ x.dst < n ∧ stayOp x.op = true := by
  unfold stayHere at h
  cases h1 : dceMakes x.op <;> simp only [h1, if_tt, if_ff] at h
  · cases h2 : (x.op != 46) <;> simp only [h2, if_tt, if_ff] at h
    · cases h
    cases h3 : decide (x.dst ≥ 0) <;> simp only [h3, if_tt, if_ff] at h
    · cases h
    cases h4 : decide (x.dst < n) <;> simp only [h4, if_tt, if_ff] at h
    · cases h
    exact ⟨of_decide_eq_true h3, of_decide_eq_true h4, h⟩
  · cases h
theorem stayL_len (n : Int) : ∀ (l : List Ins) (o : List Bool), (stayL n o l).length = o.length
  | [], o => rfl
  | x :: l, o => by
    show (stayL n (stayV n o x) l).length = _
    rw [stayL_len n l]
    unfold stayV
    split <;> simp
theorem stayL_at (n : Int) : ∀ (l : List Ins) (o : List Bool), n = (o.length : Int) → ∀ k : Nat, (stayL n o l)[k]? = some true ↔ o[k]? = some true ∨ ∃ x ∈ l, stayHere n x = true ∧ x.dst = (k : Int)
  | [], o, hn, k => by simp [stayL]
  | x :: l, o, hn, k => by
    show (stayL n (stayV n o x) l)[k]? = some true ↔ _
    have hlen : (stayV n o x).length = o.length := by unfold stayV; split <;> simp
    rw [stayL_at n l _ (by rw [hlen]; exact hn) k]
    have hv : (stayV n o x)[k]? = some true ↔ o[k]? = some true ∨ (stayHere n x = true ∧ x.dst = (k : Int)) := by
      unfold stayV
      split
      · rename_i hs
        obtain ⟨h0, h1, _⟩ := stayHere_t hs
        rw [List.getElem?_set]
        by_cases e : x.dst.toNat = k
        · rw [if_pos e, if_pos (by omega)]
          simp [hs]
          right; omega
        · rw [if_neg e]
          refine ⟨.inl, fun h => h.resolve_right fun h => e (by omega)⟩
      · rename_i hs
        exact ⟨.inl, fun h => h.resolve_right fun h => hs h.1⟩
    rw [hv]
    constructor
    · rintro ((h | h) | ⟨y, h1, h2⟩)
      · exact .inl h
      · exact .inr ⟨x, by simp, h⟩
      · exact .inr ⟨y, by simp [h1], h2⟩
    · rintro (h | ⟨y, h1, h2⟩)
      · exact .inl (.inl h)
      · rcases List.mem_cons.1 h1 with rfl | h1
        · exact .inl (.inr h2)
        · exact .inr ⟨y, h1, h2⟩
theorem stayL_snoc {n : Int} {o : List Bool} {l : List Ins} {x : Ins} : stayL n o (l ++ [x]) = stayV n (stayL n o l) x := by unfold stayL; rw [List.foldl_append]; rfl
/-- What is needed of a function. -/
def NeededP (f : Fn) (k : Nat) : Prop := ReachB (byL (allIns f)) (roots f) k ∨ ∃ x ∈ allIns f, stayHere f.size x = true ∧ x.dst = (k : Int)
noncomputable def needOf (f : Fn) (N : Nat) : List Bool := (List.range N).map fun k => dec (NeededP f k)
theorem bools_ext {N : Nat} {l : List Bool} {p : Nat → Prop} (hl : l.length = N) (h : ∀ k, l[k]? = some true ↔ p k) : l = (List.range N).map fun k => dec (p k) := by
  refine List.ext_getElem? fun k => ?_
  rw [List.getElem?_map]
  rcases Nat.lt_or_ge k N with h1 | h1
  · rw [List.getElem?_range h1]
    obtain ⟨b, hb⟩ := get_of_lt (hl ▸ h1 : k < l.length)
    rw [hb]
    simp only [Option.map_some, Option.some.injEq]
    cases b with
    | true => exact dec_t ((h k).1 hb)
    | false => exact dec_f fun hp => by have := (h k).2 hp; rw [hb] at this; cases this
  · rw [List.getElem?_eq_none (by omega), List.getElem?_eq_none (by simpa using h1)]; rfl
end Go.Proofs.Ytgoajlgkbcongaa.Vm
end
section
set_option linter.unusedVariables false
set_option linter.unusedSimpArgs false
set_option maxRecDepth 100000
set_option maxHeartbeats 4000000
namespace Go.Proofs.Ytgoajlgkbcongaa.Vm
open Go Go.RowKit Go.Proofs
theorem by_lenN {k : Nat} (pre : List Ins) (h : ∀ z ∈ pre, (dceLooks z).length ≤ 1048576) (hn : pre.length ≤ 524288) : (byL pre k).length ≤ 549755813888 := by
  have h1 := byL_len (d := k) pre h
  have h3 := Nat.mul_le_mul_right 1048576 hn
  omega
theorem looks_pre {f : Fn} {N : Nat} (hf : DceOk f N) {blk : Block} (hbm : blk ∈ f.blocks) (b i : Nat) : ∀ z ∈ preTo f b ++ blk.ins.take i, (dceLooks z).length ≤ 1048576 := by
  intro z hz
  refine looks_len ?_
  rcases List.mem_append.1 hz with h | h
  · obtain ⟨q, hq1, hq2⟩ := List.mem_flatMap.1 h
    exact hf.args q (List.mem_of_mem_take hq1) z hq2
  · exact hf.args blk hbm z (List.mem_of_mem_take h)
theorem by_len_all {f : Fn} {N : Nat} (hf : DceOk f N) (k : Nat) : (byL (allIns f) k).length ≤ 1099511627776 := by
  have h1 := byL_len (d := k) (allIns f) (fun z hz => looks_len (by obtain ⟨q, hq1, hq2⟩ := List.mem_flatMap.1 hz; exact hf.args q hq1 z hq2))
  have h2 : (allIns f).length ≤ 524288 := by
    have := hf.many
    unfold insTo at this
    rw [List.take_of_length_le (Nat.le_refl _)] at this
    unfold allIns
    rw [List.length_flatMap]
    exact this
  have h3 := Nat.mul_le_mul_right 1048576 h2
  omega
theorem roots_lt {f : Fn} {N : Nat} (hf : DceOk f N) : ∀ v ∈ roots f, v < (N : Int) := by
  intro v hv
  obtain ⟨b, hb, hv⟩ := List.mem_flatMap.1 hv
  rcases List.mem_append.1 hv with h | h
  · obtain ⟨x, hx, hv⟩ := List.mem_flatMap.1 h
    unfold insRoots at hv
    split at hv
    · cases hv
    · split at hv
      · exact hf.looks b hb x hx v hv
      · cases hv
  · unfold termRoots at h
    split at h
    · rename_i hk
      rw [List.mem_singleton.1 h]
      exact hf.term b hb (by simpa using hk)
    · cases h
theorem byW_nil (N : Nat) : byW N [] = List.replicate N [] := by
  unfold byW byL
  refine List.ext_getElem (by simp) fun i h1 h2 => by simp
theorem lt_dec0 {l : List Int} (h : decide ((l.length : Int) > 0) = true) : l ≠ [] := fun e => by subst e; simp at h
theorem lt_dec0f {l : List Int} (h : decide ((l.length : Int) > 0) = false) : l.length = 0 := by have := of_decide_eq_false h; omega
theorem snoc_of {l : List Int} (h : l ≠ []) : ∃ a b, l = a ++ [b] := ⟨l.dropLast, l.getLast h, (List.dropLast_concat_getLast h).symm⟩
theorem fun77 (f : Fn) (N : Nat) (hf : DceOk f N) : Fun Try.prog 77 [.agg (fnRow f)] (fun r => r.frz = .fz ((needOf f N).map boolRow)) := by
  refine Fun.ok Try.func77 rfl (by rfl) 137 Try.ntmps77 (by rfl) fun hok K g0 => ?_
  simp -implicitDefEqProofs only [go_sem]
  have hsz := hf.size
  have hN := hf.small
  have hN1 : N ≤ 281474976710656 := by omega
  have hN2 : N ≤ 9223372036854775807 := by omega
  have hN3 : 24 * N ≤ 281474976710656 := by omega
  have hbl := hf.blocks
  have hrN : ∀ v ∈ roots f, v < (N : Int) := roots_lt hf
  have hbyN : ∀ k, ∀ v ∈ byL (allIns f) k, v < (N : Int) := fun k v hv => by obtain ⟨x, h1, _, _, h4⟩ := byL_mem.1 hv; obtain ⟨b, hb, hx⟩ := List.mem_flatMap.1 h1; exact hf.looks b hb x hx v h4
  refine AW.runs [] (by simp -implicitDefEqProofs only [go_sem, hsz, hN1, hN2, hN3]; rfl) (by trivial) ?_
  refine AW.scope (X := Nat × List Bool × List Int) 0 rfl (fun x => x.2.1.count false + x.2.2.length) (fun x => [(1, .box g0 (fnRow f)), (3, .box (g0 + 2) [.own (g0 + 1) 1 (x.2.1.map boolRow)]), (4, .box (g0 + 3) [.own x.1 1 (x.2.2.map intRow)]), (5, .clo 100 [.adr (3, []) (g0 + 2) 0 0 0, .adr (4, []) (g0 + 3) 0 0 0]), (6, .fz ((byW N (allIns f)).map intsRow))]) (fun x => PI N (byL (allIns f)) (roots f) x.2.1 x.2.2) 137 ?_ (fun hp => ?_)
  · intro x g1 hinv
    obtain ⟨idw, out, work⟩ := x
    simp only at hinv ⊢
    refine AW.seq ?_
    refine AW.runs [] (by simp -implicitDefEqProofs only [go_sem, hsz, hN1, hN2, hN3]; rfl) (by trivial) ?_
    refine AW.if (by simp -implicitDefEqProofs only [go_sem, hsz, hN1, hN2, hN3]; rfl) (fun ht74 => ?_) (fun ht74 => ?_)
    · obtain ⟨work0, kz, rfl⟩ := snoc_of (lt_dec0 ht74)
      obtain ⟨k, rfl, hko⟩ := hinv.wk kz (by simp)
      have hkN : k < N := by rw [← hinv.len]; exact (List.getElem?_eq_some_iff.1 hko).1
      have hws := hinv.sum
      have hwr : IntKind.i64.wrap (((work0.length + 1 : Nat) : Int) - 1) = (work0.length : Int) := by simp only [List.length_append, List.length_cons, List.length_nil] at hws; rw [wrap_in _ (by omega) (by omega)]; omega
      have hgl : (work0 ++ [(k : Int)])[work0.length]? = some (k : Int) := by simp
      have hll : work0.length < work0.length + 1 := Nat.lt_succ_self _
      have htk : (work0 ++ [(k : Int)]).take work0.length = work0 := by simp
      obtain ⟨w, hw⟩ := get_of_lt (show k < (byW N (allIns f)).length by rw [byW_len]; exact hkN)
      have hwe := byW_at hw
      obtain ⟨hP1, hP2⟩ := hinv.pop (hbyN k)
      have htkm : ((work0 ++ [(k : Int)]).map intRow).take work0.length = work0.map intRow := by rw [← List.map_take, htk]
      have hbylen : w.length ≤ 1099511627776 := by rw [hwe]; exact by_len_all hf k
      refine AW.runs [] (by simp -implicitDefEqProofs only [go_sem, hsz, hN1, hN2, hN3, ht74, hwr, hgl, hll, htk, hw]; rfl) (by trivial) ?_
      refine AW.seq (AW.region ?_)
      refine LW.split 4 [] (by simp -implicitDefEqProofs only [go_sem, hsz, hN1, hN2, hN3, ht74, hwr, hgl, hll, htk, hw]; rfl) (by trivial) ?_
      refine LW.op rfl (OpS.pop (k := IntKind.i64) (n := work0.length) (sz := 1) (rows := (work0 ++ [(k : Int)]).map intRow) rfl f_elsz45 (by simp -implicitDefEqProofs only [go_sem]; rfl) (by simp -implicitDefEqProofs only [go_sem, hsz, hN1, hN2, hN3, ht74, hwr, hgl, hll, htk, hw]) (by simp) (by simp -implicitDefEqProofs only [go_sem, htkm]; rfl)) ?_
      refine LW.split 1 [] (by simp -implicitDefEqProofs only [go_sem, hsz, hN1, hN2, hN3, ht74, hwr, hgl, hll, htk, hw]; rfl) (by trivial) ?_
      refine LW.nil ?_
      show AW _ _ _ _ _
      refine AW.seq (AW.region ?_)
      refine LW.split 5 [] (by simp -implicitDefEqProofs only [go_sem, hsz, hN1, hN2, hN3, ht74, hwr, hgl, hll, htk, hw]; rfl) (by trivial) ?_
      refine LW.callR rfl (by simp -implicitDefEqProofs only [go_sem, callRef]; rfl) (by simp -implicitDefEqProofs only [go_sem, Fr.takeR]; rfl) (fun100 out work0 w (g0 + 1) _ hbylen (by rw [hinv.len]; omega) (by have h1 := hinv.sum; simp only [List.length_append, List.length_cons, List.length_nil] at h1; omega) (by rw [hinv.len, hwe]; exact hbyN k)) (fun v9 cs9 g9 hR hg => ?_)
      obtain ⟨hc1, idw2, hc2⟩ := hR
      refine ⟨_, _, by simp -implicitDefEqProofs only [go_sem, Fr.giveR, hc1, hc2]; rfl, by simp -implicitDefEqProofs only [go_sem]; rfl, ?_⟩
      refine LW.nil ?_
      show AW _ _ _ _ _
      exact AW.goto ⟨rfl, (idw2, (needL (out, work0) w).1, (needL (out, work0) w).2), by rw [hwe]; exact hP2, by rw [hwe]; exact hP1, ⟨by simp -implicitDefEqProofs only [go_sem], by simp -implicitDefEqProofs only [go_sem, hsz, hN1, hN2, hN3, ht74, hwr, hgl, hll, htk, hw]; try simp [hsz, hN1, hN2, hN3, ht74, hwr, hgl, hll, htk, hw]⟩⟩
    · have hwz : work = [] := by have := lt_dec0f ht74; exact List.eq_nil_of_length_eq_zero this
      subst hwz
      have hlen := hinv.len
      refine AW.skip ?_
      show AW _ _ _ _ _
      refine AW.seq ?_
      refine AW.runs [] (by simp -implicitDefEqProofs only [go_sem, hsz, hN1, hN2, hN3, ht74]; rfl) (by trivial) ?_
      refine AW.block ?_
      refine AW.forH (X := Unit) (f.blocks.length) (fun b _ => [(1, .box g0 (fnRow f)), (3, .box (g0 + 2) [.own (g0 + 1) 1 ((stayL (N : Int) out (preTo f b)).map boolRow)]), (93, .fz (f.blocks.map blockRow)), (94, .int .i64 f.blocks.length), (95, .int .i64 b)]) (fun b _ => True) 137 ⟨(), trivial, ⟨by simp -implicitDefEqProofs only [go_sem], by simp -implicitDefEqProofs only [go_sem, hsz, hN1, hN2, hN3, ht74, preTo, List.take_zero, List.flatMap_nil, stayL, List.foldl_nil]; try simp [hsz, hN1, hN2, hN3, ht74, preTo, List.take_zero, List.flatMap_nil, stayL, List.foldl_nil]⟩⟩ fun b _ g2 hib hinvb => ?_
      refine AW.runs [] (by simp -implicitDefEqProofs only [go_sem, hsz, hN1, hN2, hN3, ht74]; rfl) (by trivial) ?_
      refine AW.seq ?_
      refine AW.if (by simp -implicitDefEqProofs only [go_sem, hsz, hN1, hN2, hN3, ht74]; rfl) (fun ht96 => ?_) (fun ht96 => ?_)
      · have hltb : b < f.blocks.length := lt_dec ht96
        obtain ⟨blk, hb⟩ := get_of_lt hltb
        have hbm := List.mem_of_getElem? hb
        have hil : blk.ins.length ≤ 524288 := by have := ins_le hbm; have := hf.many; omega
        refine AW.skip ?_
        show AW _ _ _ _ _
        refine AW.seq ?_
        refine AW.block ?_
        refine AW.runs [] (by simp -implicitDefEqProofs only [go_sem, hsz, hN1, hN2, hN3, ht74, ht96, hb]; rfl) (by trivial) ?_
        refine AW.runs [] (by simp -implicitDefEqProofs only [go_sem, hsz, hN1, hN2, hN3, ht74, ht96, hb]; rfl) (by trivial) ?_
        refine AW.block ?_
        refine AW.forH (X := Unit) (blk.ins.length) (fun i _ => [(1, .box g0 (fnRow f)), (3, .box (g0 + 2) [.own (g0 + 1) 1 ((stayL (N : Int) out (preTo f b ++ blk.ins.take i)).map boolRow)]), (93, .fz (f.blocks.map blockRow)), (94, .int .i64 f.blocks.length), (95, .int .i64 b), (100, .fz (blk.ins.map insRow)), (101, .int .i64 blk.ins.length), (102, .int .i64 i)]) (fun i _ => True) 137 ⟨(), trivial, ⟨by simp -implicitDefEqProofs only [go_sem], by simp -implicitDefEqProofs only [go_sem, hsz, hN1, hN2, hN3, ht74, ht96, hb, List.take_zero, List.append_nil]; try simp [hsz, hN1, hN2, hN3, ht74, ht96, hb, List.take_zero, List.append_nil]⟩⟩ fun i _ g3 hii hinvi => ?_
        refine AW.runs [] (by simp -implicitDefEqProofs only [go_sem, hsz, hN1, hN2, hN3, ht74, ht96, hb]; rfl) (by trivial) ?_
        refine AW.seq ?_
        refine AW.if (by simp -implicitDefEqProofs only [go_sem, hsz, hN1, hN2, hN3, ht74, ht96, hb]; rfl) (fun ht103 => ?_) (fun ht103 => ?_)
        · have hlti : i < blk.ins.length := lt_dec ht103
          obtain ⟨x, hx⟩ := get_of_lt hlti
          refine AW.skip ?_
          show AW _ _ _ _ _
          refine AW.seq ?_
          refine AW.block ?_
          refine AW.runs [] (by simp -implicitDefEqProofs only [go_sem, hsz, hN1, hN2, hN3, ht74, ht96, hb, ht103, hx]; rfl) (by trivial) ?_
          refine AW.join [(1, .box g0 (fnRow f)), (3, .box (g0 + 2) [.own (g0 + 1) 1 ((stayL (N : Int) out (preTo f b ++ blk.ins.take i)).map boolRow)]), (15, .box g3 (insRow x)), (93, .fz (f.blocks.map blockRow)), (94, .int .i64 f.blocks.length), (95, .int .i64 b), (100, .fz (blk.ins.map insRow)), (101, .int .i64 blk.ins.length), (102, .int .i64 i), (129, .bool (stayHere (N : Int) x))] 137 ?_ (fun g4 => ?_)
          · cases c1 : dceMakes x.op
            · cases c2 : (x.op != 46)
              · refine AW.run [.bool (dceMakes x.op)] (by simp -implicitDefEqProofs only [go_sem, hsz, hN1, hN2, hN3, ht74, ht96, hb, ht103, hx, c1, c2]; rfl) (ob1 (by have h := (fun78 x).obb; (try simp only [hsz, hN1, hN2, hN3, ht74, ht96, hb, ht103, hx, c1, c2] at h); exact h)) ?_
                exact ⟨by simp -implicitDefEqProofs only [go_sem], by simp -implicitDefEqProofs only [go_sem, hsz, hN1, hN2, hN3, ht74, ht96, hb, ht103, hx, c1, c2, stayHere]; try simp [hsz, hN1, hN2, hN3, ht74, ht96, hb, ht103, hx, c1, c2, stayHere]⟩
              · cases c3 : decide (x.dst ≥ 0)
                · refine AW.run [.bool (dceMakes x.op)] (by simp -implicitDefEqProofs only [go_sem, hsz, hN1, hN2, hN3, ht74, ht96, hb, ht103, hx, c1, c2, c3]; rfl) (ob1 (by have h := (fun78 x).obb; (try simp only [hsz, hN1, hN2, hN3, ht74, ht96, hb, ht103, hx, c1, c2, c3] at h); exact h)) ?_
                  exact ⟨by simp -implicitDefEqProofs only [go_sem], by simp -implicitDefEqProofs only [go_sem, hsz, hN1, hN2, hN3, ht74, ht96, hb, ht103, hx, c1, c2, c3, stayHere]; try simp [hsz, hN1, hN2, hN3, ht74, ht96, hb, ht103, hx, c1, c2, c3, stayHere]⟩
                · cases c4 : decide (x.dst < (N : Int))
                  · refine AW.run [.bool (dceMakes x.op)] (by simp -implicitDefEqProofs only [go_sem, hsz, hN1, hN2, hN3, ht74, ht96, hb, ht103, hx, c1, c2, c3, c4]; rfl) (ob1 (by have h := (fun78 x).obb; (try simp only [hsz, hN1, hN2, hN3, ht74, ht96, hb, ht103, hx, c1, c2, c3, c4] at h); exact h)) ?_
                    exact ⟨by simp -implicitDefEqProofs only [go_sem], by simp -implicitDefEqProofs only [go_sem, hsz, hN1, hN2, hN3, ht74, ht96, hb, ht103, hx, c1, c2, c3, c4, stayHere]; try simp [hsz, hN1, hN2, hN3, ht74, ht96, hb, ht103, hx, c1, c2, c3, c4, stayHere]⟩
                  · refine AW.run [.bool (dceMakes x.op), .bool (stayOp x.op)] (by simp -implicitDefEqProofs only [go_sem, hsz, hN1, hN2, hN3, ht74, ht96, hb, ht103, hx, c1, c2, c3, c4]; rfl) (ob2 (by have h := (fun78 x).obb; (try simp only [hsz, hN1, hN2, hN3, ht74, ht96, hb, ht103, hx, c1, c2, c3, c4] at h); exact h) (by have h := (fun102 x).obb; (try simp only [hsz, hN1, hN2, hN3, ht74, ht96, hb, ht103, hx, c1, c2, c3, c4] at h); exact h)) ?_
                    exact ⟨by simp -implicitDefEqProofs only [go_sem], by simp -implicitDefEqProofs only [go_sem, hsz, hN1, hN2, hN3, ht74, ht96, hb, ht103, hx, c1, c2, c3, c4, stayHere]; try simp [hsz, hN1, hN2, hN3, ht74, ht96, hb, ht103, hx, c1, c2, c3, c4, stayHere]⟩
            · refine AW.run [.bool (dceMakes x.op)] (by simp -implicitDefEqProofs only [go_sem, hsz, hN1, hN2, hN3, ht74, ht96, hb, ht103, hx, c1]; rfl) (ob1 (by have h := (fun78 x).obb; (try simp only [hsz, hN1, hN2, hN3, ht74, ht96, hb, ht103, hx, c1] at h); exact h)) ?_
              exact ⟨by simp -implicitDefEqProofs only [go_sem], by simp -implicitDefEqProofs only [go_sem, hsz, hN1, hN2, hN3, ht74, ht96, hb, ht103, hx, c1, stayHere]; try simp [hsz, hN1, hN2, hN3, ht74, ht96, hb, ht103, hx, c1, stayHere]⟩
          · refine AW.if (by simp -implicitDefEqProofs only [go_sem, hsz, hN1, hN2, hN3, ht74, ht96, hb, ht103, hx]; rfl) (fun ht129 => ?_) (fun ht129 => ?_)
            · obtain ⟨k0, k1, _⟩ := stayHere_t ht129
              obtain ⟨k, hk⟩ := Int.eq_ofNat_of_zero_le k0
              have hkl : k < (stayL (N : Int) out (preTo f b ++ blk.ins.take i)).length := by rw [stayL_len, hlen]; omega
              have hst : stayL (N : Int) out (preTo f b ++ blk.ins.take (i + 1)) = (stayL (N : Int) out (preTo f b ++ blk.ins.take i)).set k true := by rw [take_snoc hx, ← List.append_assoc, stayL_snoc]; unfold stayV; rw [ht129, hk]; rfl
              obtain ⟨q9, hq9⟩ := get_of_lt hkl
              refine AW.run [] (by simp -implicitDefEqProofs only [go_sem, hsz, hN1, hN2, hN3, ht74, ht96, hb, ht103, hx, ht129, hk, hkl, hq9]; rfl) (by trivial) ?_
              show AW _ _ _ _ _
              refine AW.run [] (by simp -implicitDefEqProofs only [go_sem, hsz, hN1, hN2, hN3, ht74, ht96, hb, ht103, hx, ht129, hk, hkl, hq9]; rfl) (by trivial) ?_
              exact ⟨hlti, (), trivial, ⟨by simp -implicitDefEqProofs only [go_sem], by simp -implicitDefEqProofs only [go_sem, hsz, hN1, hN2, hN3, ht74, ht96, hb, ht103, hx, ht129, hk, hkl, hq9, step_int i (Nat.lt_of_lt_of_le hlti (by omega)), hst]; try simp [hsz, hN1, hN2, hN3, ht74, ht96, hb, ht103, hx, ht129, hk, hkl, hq9, step_int i (Nat.lt_of_lt_of_le hlti (by omega)), hst]⟩⟩
            · have hst : stayL (N : Int) out (preTo f b ++ blk.ins.take (i + 1)) = stayL (N : Int) out (preTo f b ++ blk.ins.take i) := by rw [take_snoc hx, ← List.append_assoc, stayL_snoc]; unfold stayV; rw [ht129]; rfl
              refine AW.skip ?_
              show AW _ _ _ _ _
              refine AW.run [] (by simp -implicitDefEqProofs only [go_sem, hsz, hN1, hN2, hN3, ht74, ht96, hb, ht103, hx, ht129]; rfl) (by trivial) ?_
              exact ⟨hlti, (), trivial, ⟨by simp -implicitDefEqProofs only [go_sem], by simp -implicitDefEqProofs only [go_sem, hsz, hN1, hN2, hN3, ht74, ht96, hb, ht103, hx, ht129, step_int i (Nat.lt_of_lt_of_le hlti (by omega)), hst]; try simp [hsz, hN1, hN2, hN3, ht74, ht96, hb, ht103, hx, ht129, step_int i (Nat.lt_of_lt_of_le hlti (by omega)), hst]⟩⟩
        · have hie := ge_dec ht103
          have hpt : preTo f b ++ blk.ins.take i = preTo f (b + 1) := by unfold preTo; rw [fm_take _ hb, List.take_of_length_le hie]
          rw [hpt]
          refine AW.exit ?_
          show AW _ _ _ _ _
          refine AW.run [] (by simp -implicitDefEqProofs only [go_sem, hsz, hN1, hN2, hN3, ht74, ht96, hb, ht103]; rfl) (by trivial) ?_
          exact ⟨hltb, (), trivial, ⟨by simp -implicitDefEqProofs only [go_sem], by simp -implicitDefEqProofs only [go_sem, hsz, hN1, hN2, hN3, ht74, ht96, hb, ht103, step_int b (Nat.lt_of_lt_of_le hltb (by omega))]; try simp [hsz, hN1, hN2, hN3, ht74, ht96, hb, ht103, step_int b (Nat.lt_of_lt_of_le hltb (by omega))]⟩⟩
      · have hbe := ge_dec ht96
        have hpre : preTo f b = allIns f := by unfold preTo allIns; rw [List.take_of_length_le hbe]
        have hfin : stayL (N : Int) out (allIns f) = needOf f N := bools_ext (by rw [stayL_len, hlen]) fun k => by rw [stayL_at _ _ _ (by rw [hlen]), hinv.done]; unfold NeededP; rw [hsz]
        rw [hpre, hfin]
        refine AW.exit ?_
        show AW _ _ _ _ _
        refine AW.runs [] (by simp -implicitDefEqProofs only [go_sem, hsz, hN1, hN2, hN3, ht74, ht96]; rfl) (by trivial) ?_
        exact AW.ret ⟨.inl rfl, _, rfl, by simp -implicitDefEqProofs only [go_sem]⟩
  · refine AW.runs [] (by simp -implicitDefEqProofs only [go_sem, hsz, hN1, hN2, hN3]; rfl) (by trivial) ?_
    refine AW.runs [] (by simp -implicitDefEqProofs only [go_sem, hsz, hN1, hN2, hN3]; rfl) (by trivial) ?_
    refine AW.nilOwn (4, [(0, 0)]) 1 (by simp -implicitDefEqProofs only [go_sem]) ?_
    refine AW.runs [] (by simp -implicitDefEqProofs only [go_sem, hsz, hN1, hN2, hN3]; rfl) (by trivial) ?_
    refine AW.runs [] (by simp -implicitDefEqProofs only [go_sem, hsz, hN1, hN2, hN3]; rfl) (by trivial) ?_
    refine AW.seq ?_
    refine AW.runs [] (by simp -implicitDefEqProofs only [go_sem, hsz, hN1, hN2, hN3]; rfl) (by trivial) ?_
    refine AW.block ?_
    refine AW.forH (X := Nat × List AV) (f.blocks.length) (fun b x => [(1, .box g0 (fnRow f)), (3, .box (g0 + 2) [.own (g0 + 1) 1 ((ndOf N (rootsTo f b)).1.map boolRow)]), (4, .box (g0 + 3) [.own x.1 1 ((ndOf N (rootsTo f b)).2.map intRow)]), (5, .clo 100 [.adr (3, []) (g0 + 2) 0 0 0, .adr (4, []) (g0 + 3) 0 0 0]), (6, .own (g0 + 5) 1 (x.2.map cellRow)), (24, .fz (f.blocks.map blockRow)), (25, .int .i64 f.blocks.length), (26, .int .i64 b)]) (fun b x => CellsI x.2 (byW N (preTo f b))) 137 ⟨((g0 + 4), List.replicate N .nil), by simp [preTo, byW_nil]; exact CellsI.zero N, ⟨by simp -implicitDefEqProofs only [go_sem], by simp -implicitDefEqProofs only [go_sem, hsz, hN1, hN2, hN3, rootsTo, List.take_zero, List.flatMap_nil, ndOf, needL, List.foldl_nil, List.map_nil]; try simp [hsz, hN1, hN2, hN3, rootsTo, List.take_zero, List.flatMap_nil, ndOf, needL, List.foldl_nil, List.map_nil]⟩⟩ fun b x g5 hib hinvb => ?_
    refine AW.runs [] (by simp -implicitDefEqProofs only [go_sem, hsz, hN1, hN2, hN3]; rfl) (by trivial) ?_
    refine AW.seq ?_
    refine AW.if (by simp -implicitDefEqProofs only [go_sem, hsz, hN1, hN2, hN3]; rfl) (fun ht27 => ?_) (fun ht27 => ?_)
    · have hltb : b < f.blocks.length := lt_dec ht27
      obtain ⟨blk, hb⟩ := get_of_lt hltb
      have hbm := List.mem_of_getElem? hb
      have hil : blk.ins.length ≤ 524288 := by have := ins_le hbm; have := hf.many; omega
      refine AW.skip ?_
      show AW _ _ _ _ _
      refine AW.seq ?_
      refine AW.block ?_
      refine AW.runs [] (by simp -implicitDefEqProofs only [go_sem, hsz, hN1, hN2, hN3, ht27, hb]; rfl) (by trivial) ?_
      refine AW.seq ?_
      refine AW.runs [] (by simp -implicitDefEqProofs only [go_sem, hsz, hN1, hN2, hN3, ht27, hb]; rfl) (by trivial) ?_
      refine AW.block ?_
      refine AW.forH (X := Nat × List AV) (blk.ins.length) (fun i y => [(1, .box g0 (fnRow f)), (3, .box (g0 + 2) [.own (g0 + 1) 1 ((ndOf N (rootsTo f b ++ (blk.ins.take i).flatMap insRoots)).1.map boolRow)]), (4, .box (g0 + 3) [.own y.1 1 ((ndOf N (rootsTo f b ++ (blk.ins.take i).flatMap insRoots)).2.map intRow)]), (5, .clo 100 [.adr (3, []) (g0 + 2) 0 0 0, .adr (4, []) (g0 + 3) 0 0 0]), (6, .own (g0 + 5) 1 (y.2.map cellRow)), (8, .box g5 (blockRow blk)), (24, .fz (f.blocks.map blockRow)), (25, .int .i64 f.blocks.length), (26, .int .i64 b), (31, .fz (blk.ins.map insRow)), (32, .int .i64 blk.ins.length), (33, .int .i64 i)]) (fun i y => CellsI y.2 (byW N (preTo f b ++ blk.ins.take i))) 137 ⟨x, by simpa using hinvb, ⟨by simp -implicitDefEqProofs only [go_sem], by simp -implicitDefEqProofs only [go_sem, hsz, hN1, hN2, hN3, ht27, hb, List.take_zero, List.flatMap_nil, List.append_nil]; try simp [hsz, hN1, hN2, hN3, ht27, hb, List.take_zero, List.flatMap_nil, List.append_nil]⟩⟩ fun i y g6 hii hcs => ?_
      obtain ⟨idw, cs⟩ := y
      simp only at hcs ⊢
      refine AW.runs [] (by simp -implicitDefEqProofs only [go_sem, hsz, hN1, hN2, hN3, ht27, hb]; rfl) (by trivial) ?_
      refine AW.seq ?_
      refine AW.if (by simp -implicitDefEqProofs only [go_sem, hsz, hN1, hN2, hN3, ht27, hb]; rfl) (fun ht34 => ?_) (fun ht34 => ?_)
      · have hlti : i < blk.ins.length := lt_dec ht34
        obtain ⟨x, hx⟩ := get_of_lt hlti
        have hxm := List.mem_of_getElem? hx
        have hxa := hf.args blk hbm x hxm
        have hpl := looks_pre hf hbm b i
        have hpn : (preTo f b ++ blk.ins.take i).length ≤ 524288 := by rw [List.length_append, preTo_len, List.length_take]; have h1 := sum_at (fun b : Block => b.ins.length) hb; have h2 := hf.many; unfold insTo at h2 ⊢; rw [List.take_of_length_le (Nat.le_refl _)] at h2; omega
        refine AW.skip ?_
        show AW _ _ _ _ _
        refine AW.seq ?_
        refine AW.block ?_
        refine AW.runs [] (by simp -implicitDefEqProofs only [go_sem, hsz, hN1, hN2, hN3, ht27, hb, ht34, hx]; rfl) (by trivial) ?_
        refine AW.block ?_
        refine AW.runs [.bool (dceMakes x.op)] (by simp -implicitDefEqProofs only [go_sem, hsz, hN1, hN2, hN3, ht27, hb, ht34, hx]; rfl) (ob1 ((fun78 x).obb)) ?_
        refine AW.if (by simp -implicitDefEqProofs only [go_sem, hsz, hN1, hN2, hN3, ht27, hb, ht34, hx]; rfl) (fun ht37 => ?_) (fun ht37 => ?_)
        · obtain ⟨hd0, hd1⟩ := hf.dst blk hbm x hxm ht37
          obtain ⟨k, hk⟩ := Int.eq_ofNat_of_zero_le hd0
          have hkN : k < N := by omega
          obtain ⟨c, w, hc, hw, hcw⟩ := hcs.at (k := k) (by rw [byW_len]; exact hkN)
          have hwe := byW_at hw
          have hkc : k < cs.length := (List.getElem?_eq_some_iff.1 hc).1
          have hsp : byW N (preTo f b ++ blk.ins.take (i + 1)) = (byW N (preTo f b ++ blk.ins.take i)).set k (w ++ dceLooks x) := by rw [take_snoc hx, ← List.append_assoc, byW_m ht37 hk, hwe]
          have hrx : insRoots x = [] := by unfold insRoots; rw [ht37]; rfl
          have hrts : rootsTo f b ++ (blk.ins.take (i + 1)).flatMap insRoots = rootsTo f b ++ (blk.ins.take i).flatMap insRoots := by rw [fm_take _ hx, hrx, List.append_nil]
          have hwl : w.length ≤ 549755813888 := by rw [hwe]; exact by_lenN (preTo f b ++ blk.ins.take i) hpl hpn
          have hlk := looks_len hxa
          have hbn : (w.length + (dceLooks x).length) * 8 ≤ 140737488355328 := by omega
          have hbn0 : (dceLooks x).length * 8 ≤ 140737488355328 := by omega
          rcases hcw with ⟨rfl, rfl⟩ | ⟨idc, rfl⟩
          · refine AW.has (n := 137) [(1, .box g0 (fnRow f)), (3, .box (g0 + 2) [.own (g0 + 1) 1 ((ndOf N (rootsTo f b ++ (blk.ins.take i).flatMap insRoots)).1.map boolRow)]), (4, .box (g0 + 3) [.own idw 1 ((ndOf N (rootsTo f b ++ (blk.ins.take i).flatMap insRoots)).2.map intRow)]), (5, .clo 100 [.adr (3, []) (g0 + 2) 0 0 0, .adr (4, []) (g0 + 3) 0 0 0]), (6, AV.own (g0 + 5) 1 (cs.map cellRow)), (8, .box g5 (blockRow blk)), (10, .box g6 (insRow x)), (24, .fz (f.blocks.map blockRow)), (25, .int .i64 f.blocks.length), (26, .int .i64 b), (31, .fz (blk.ins.map insRow)), (32, .int .i64 blk.ins.length), (33, .int .i64 i)] (⟨by simp -implicitDefEqProofs only [go_sem], by simp -implicitDefEqProofs only [go_sem, hsz, hN1, hN2, hN3, ht27, hb, ht34, hx, ht37, hk, hc, hkc, hbn, hbn0]; try simp [hsz, hN1, hN2, hN3, ht27, hb, ht34, hx, ht37, hk, hc, hkc, hbn, hbn0]⟩) (fun g7 => ?_)
            refine AW.drw2 [0, 1, 2, 3, 4, 5, 6, 7, 8, 9] [10, 11, 12] [[], [], [1], [], [], [4], [3, 4, 5], [3, 4, 5, 6], [], [8], [3, 4, 5, 6, 7, 8, 9], [0, 1, 2, 3, 4, 5, 6, 7, 8, 9, 10], [0, 1, 2, 3, 4, 5, 6, 7, 8, 9, 10, 11]] [40, 41, 42, 43, 44, 45, 46, 47, 48, 49] [?v0_0, ?v0_1, ?v0_2, ?v0_3, ?v0_4, ?v0_5, ?v0_6, ?v0_7, ?v0_8, ?v0_9] [([(1, .box g0 (fnRow f)), (3, .box (g0 + 2) [.own (g0 + 1) 1 ((ndOf N (rootsTo f b ++ (blk.ins.take i).flatMap insRoots)).1.map boolRow)]), (4, .box (g0 + 3) [.own idw 1 ((ndOf N (rootsTo f b ++ (blk.ins.take i).flatMap insRoots)).2.map intRow)]), (5, .clo 100 [.adr (3, []) (g0 + 2) 0 0 0, .adr (4, []) (g0 + 3) 0 0 0]), (6, AV.own (g0 + 5) 1 (cs.map cellRow)), (8, .box g5 (blockRow blk)), (10, .box g6 (insRow x)), (24, .fz (f.blocks.map blockRow)), (25, .int .i64 f.blocks.length), (26, .int .i64 b), (31, .fz (blk.ins.map insRow)), (32, .int .i64 blk.ins.length), (33, .int .i64 i)], g7), ([(1, .box g0 (fnRow f)), (3, .box (g0 + 2) [.own (g0 + 1) 1 ((ndOf N (rootsTo f b ++ (blk.ins.take i).flatMap insRoots)).1.map boolRow)]), (4, .box (g0 + 3) [.own idw 1 ((ndOf N (rootsTo f b ++ (blk.ins.take i).flatMap insRoots)).2.map intRow)]), (5, .clo 100 [.adr (3, []) (g0 + 2) 0 0 0, .adr (4, []) (g0 + 3) 0 0 0]), (6, AV.own (g0 + 5) 1 (cs.map cellRow)), (8, .box g5 (blockRow blk)), (10, .box g6 (insRow x)), (24, .fz (f.blocks.map blockRow)), (25, .int .i64 f.blocks.length), (26, .int .i64 b), (31, .fz (blk.ins.map insRow)), (32, .int .i64 blk.ins.length), (33, .int .i64 i), (50, AV.own g7 1 ((dceLooks x).map intRow))], g7 + 1), ([(1, .box g0 (fnRow f)), (3, .box (g0 + 2) [.own (g0 + 1) 1 ((ndOf N (rootsTo f b ++ (blk.ins.take i).flatMap insRoots)).1.map boolRow)]), (4, .box (g0 + 3) [.own idw 1 ((ndOf N (rootsTo f b ++ (blk.ins.take i).flatMap insRoots)).2.map intRow)]), (5, .clo 100 [.adr (3, []) (g0 + 2) 0 0 0, .adr (4, []) (g0 + 3) 0 0 0]), (6, AV.own (g0 + 5) 1 (cs.map cellRow)), (8, .box g5 (blockRow blk)), (10, .box g6 (insRow x)), (24, .fz (f.blocks.map blockRow)), (25, .int .i64 f.blocks.length), (26, .int .i64 b), (31, .fz (blk.ins.map insRow)), (32, .int .i64 blk.ins.length), (33, .int .i64 i), (50, AV.own g7 1 ((dceLooks x).map intRow)), (51, AV.adr (6, []) (g0 + 5) 1 k 0)], g7 + 1), ([(1, .box g0 (fnRow f)), (3, .box (g0 + 2) [.own (g0 + 1) 1 ((ndOf N (rootsTo f b ++ (blk.ins.take i).flatMap insRoots)).1.map boolRow)]), (4, .box (g0 + 3) [.own idw 1 ((ndOf N (rootsTo f b ++ (blk.ins.take i).flatMap insRoots)).2.map intRow)]), (5, .clo 100 [.adr (3, []) (g0 + 2) 0 0 0, .adr (4, []) (g0 + 3) 0 0 0]), (6, AV.own (g0 + 5) 1 ((cs.set k (AV.own g7 1 ((dceLooks x).map intRow))).map cellRow)), (8, .box g5 (blockRow blk)), (10, .box g6 (insRow x)), (24, .fz (f.blocks.map blockRow)), (25, .int .i64 f.blocks.length), (26, .int .i64 b), (31, .fz (blk.ins.map insRow)), (32, .int .i64 blk.ins.length), (33, .int .i64 i)], g7 + 1)] f_mix (by decide) (by rfl) (by rfl) (by rfl) [(0, 0), (0, 1), (0, 2), (0, 3), (0, 4), (0, 5), (0, 6), (0, 7), (0, 8), (0, 9), (1, 0), (1, 1), (1, 2)] (by rfl) ?_ ?_ ?_
            rotate_left 10
            · refine fa_cons ?_ ?_
              · show HeadAt Try.prog _ ((Fr.of [(1, .box g0 (fnRow f)), (3, .box (g0 + 2) [.own (g0 + 1) 1 ((ndOf N (rootsTo f b ++ (blk.ins.take i).flatMap insRoots)).1.map boolRow)]), (4, .box (g0 + 3) [.own idw 1 ((ndOf N (rootsTo f b ++ (blk.ins.take i).flatMap insRoots)).2.map intRow)]), (5, .clo 100 [.adr (3, []) (g0 + 2) 0 0 0, .adr (4, []) (g0 + 3) 0 0 0]), (6, AV.own (g0 + 5) 1 (cs.map cellRow)), (8, .box g5 (blockRow blk)), (10, .box g6 (insRow x)), (24, .fz (f.blocks.map blockRow)), (25, .int .i64 f.blocks.length), (26, .int .i64 b), (31, .fz (blk.ins.map insRow)), (32, .int .i64 blk.ins.length), (33, .int .i64 i)] (g7) 137).see [40, 41, 42, 43, 44, 45, 46, 47, 48, 49] [?v0_0, ?v0_1, ?v0_2, ?v0_3, ?v0_4, ?v0_5, ?v0_6, ?v0_7, ?v0_8, ?v0_9] []) 0 ?v0_0
                exact headX rfl rfl (by simp -implicitDefEqProofs only [go_sem, hsz, hN1, hN2, hN3, ht27, hb, ht34, hx, ht37, hk, hc, hkc, hbn, hbn0]; rfl)
              refine fa_cons ?_ ?_
              · show HeadAt Try.prog _ ((Fr.of [(1, .box g0 (fnRow f)), (3, .box (g0 + 2) [.own (g0 + 1) 1 ((ndOf N (rootsTo f b ++ (blk.ins.take i).flatMap insRoots)).1.map boolRow)]), (4, .box (g0 + 3) [.own idw 1 ((ndOf N (rootsTo f b ++ (blk.ins.take i).flatMap insRoots)).2.map intRow)]), (5, .clo 100 [.adr (3, []) (g0 + 2) 0 0 0, .adr (4, []) (g0 + 3) 0 0 0]), (6, AV.own (g0 + 5) 1 (cs.map cellRow)), (8, .box g5 (blockRow blk)), (10, .box g6 (insRow x)), (24, .fz (f.blocks.map blockRow)), (25, .int .i64 f.blocks.length), (26, .int .i64 b), (31, .fz (blk.ins.map insRow)), (32, .int .i64 blk.ins.length), (33, .int .i64 i)] (g7) 137).see [40, 41, 42, 43, 44, 45, 46, 47, 48, 49] [?v0_0, ?v0_1, ?v0_2, ?v0_3, ?v0_4, ?v0_5, ?v0_6, ?v0_7, ?v0_8, ?v0_9] []) 1 ?v0_1
                exact headX rfl rfl (by simp -implicitDefEqProofs only [go_sem, hsz, hN1, hN2, hN3, ht27, hb, ht34, hx, ht37, hk, hc, hkc, hbn, hbn0]; rfl)
              refine fa_cons ?_ ?_
              · show HeadAt Try.prog _ ((Fr.of [(1, .box g0 (fnRow f)), (3, .box (g0 + 2) [.own (g0 + 1) 1 ((ndOf N (rootsTo f b ++ (blk.ins.take i).flatMap insRoots)).1.map boolRow)]), (4, .box (g0 + 3) [.own idw 1 ((ndOf N (rootsTo f b ++ (blk.ins.take i).flatMap insRoots)).2.map intRow)]), (5, .clo 100 [.adr (3, []) (g0 + 2) 0 0 0, .adr (4, []) (g0 + 3) 0 0 0]), (6, AV.own (g0 + 5) 1 (cs.map cellRow)), (8, .box g5 (blockRow blk)), (10, .box g6 (insRow x)), (24, .fz (f.blocks.map blockRow)), (25, .int .i64 f.blocks.length), (26, .int .i64 b), (31, .fz (blk.ins.map insRow)), (32, .int .i64 blk.ins.length), (33, .int .i64 i)] (g7) 137).see [40, 41, 42, 43, 44, 45, 46, 47, 48, 49] [?v0_0, ?v0_1, ?v0_2, ?v0_3, ?v0_4, ?v0_5, ?v0_6, ?v0_7, ?v0_8, ?v0_9] [1]) 2 ?v0_2
                exact headX rfl rfl (by simp -implicitDefEqProofs only [go_sem, hsz, hN1, hN2, hN3, ht27, hb, ht34, hx, ht37, hk, hc, hkc, hbn, hbn0]; rfl)
              refine fa_cons ?_ ?_
              · show HeadAt Try.prog _ ((Fr.of [(1, .box g0 (fnRow f)), (3, .box (g0 + 2) [.own (g0 + 1) 1 ((ndOf N (rootsTo f b ++ (blk.ins.take i).flatMap insRoots)).1.map boolRow)]), (4, .box (g0 + 3) [.own idw 1 ((ndOf N (rootsTo f b ++ (blk.ins.take i).flatMap insRoots)).2.map intRow)]), (5, .clo 100 [.adr (3, []) (g0 + 2) 0 0 0, .adr (4, []) (g0 + 3) 0 0 0]), (6, AV.own (g0 + 5) 1 (cs.map cellRow)), (8, .box g5 (blockRow blk)), (10, .box g6 (insRow x)), (24, .fz (f.blocks.map blockRow)), (25, .int .i64 f.blocks.length), (26, .int .i64 b), (31, .fz (blk.ins.map insRow)), (32, .int .i64 blk.ins.length), (33, .int .i64 i)] (g7) 137).see [40, 41, 42, 43, 44, 45, 46, 47, 48, 49] [?v0_0, ?v0_1, ?v0_2, ?v0_3, ?v0_4, ?v0_5, ?v0_6, ?v0_7, ?v0_8, ?v0_9] []) 3 ?v0_3
                exact headX rfl rfl (by simp -implicitDefEqProofs only [go_sem, hsz, hN1, hN2, hN3, ht27, hb, ht34, hx, ht37, hk, hc, hkc, hbn, hbn0]; rfl)
              refine fa_cons ?_ ?_
              · show HeadAt Try.prog _ ((Fr.of [(1, .box g0 (fnRow f)), (3, .box (g0 + 2) [.own (g0 + 1) 1 ((ndOf N (rootsTo f b ++ (blk.ins.take i).flatMap insRoots)).1.map boolRow)]), (4, .box (g0 + 3) [.own idw 1 ((ndOf N (rootsTo f b ++ (blk.ins.take i).flatMap insRoots)).2.map intRow)]), (5, .clo 100 [.adr (3, []) (g0 + 2) 0 0 0, .adr (4, []) (g0 + 3) 0 0 0]), (6, AV.own (g0 + 5) 1 (cs.map cellRow)), (8, .box g5 (blockRow blk)), (10, .box g6 (insRow x)), (24, .fz (f.blocks.map blockRow)), (25, .int .i64 f.blocks.length), (26, .int .i64 b), (31, .fz (blk.ins.map insRow)), (32, .int .i64 blk.ins.length), (33, .int .i64 i)] (g7) 137).see [40, 41, 42, 43, 44, 45, 46, 47, 48, 49] [?v0_0, ?v0_1, ?v0_2, ?v0_3, ?v0_4, ?v0_5, ?v0_6, ?v0_7, ?v0_8, ?v0_9] []) 4 ?v0_4
                exact headX rfl rfl (by simp -implicitDefEqProofs only [go_sem, hsz, hN1, hN2, hN3, ht27, hb, ht34, hx, ht37, hk, hc, hkc, hbn, hbn0]; rfl)
              refine fa_cons ?_ ?_
              · show HeadAt Try.prog _ ((Fr.of [(1, .box g0 (fnRow f)), (3, .box (g0 + 2) [.own (g0 + 1) 1 ((ndOf N (rootsTo f b ++ (blk.ins.take i).flatMap insRoots)).1.map boolRow)]), (4, .box (g0 + 3) [.own idw 1 ((ndOf N (rootsTo f b ++ (blk.ins.take i).flatMap insRoots)).2.map intRow)]), (5, .clo 100 [.adr (3, []) (g0 + 2) 0 0 0, .adr (4, []) (g0 + 3) 0 0 0]), (6, AV.own (g0 + 5) 1 (cs.map cellRow)), (8, .box g5 (blockRow blk)), (10, .box g6 (insRow x)), (24, .fz (f.blocks.map blockRow)), (25, .int .i64 f.blocks.length), (26, .int .i64 b), (31, .fz (blk.ins.map insRow)), (32, .int .i64 blk.ins.length), (33, .int .i64 i)] (g7) 137).see [40, 41, 42, 43, 44, 45, 46, 47, 48, 49] [?v0_0, ?v0_1, ?v0_2, ?v0_3, ?v0_4, ?v0_5, ?v0_6, ?v0_7, ?v0_8, ?v0_9] [4]) 5 ?v0_5
                exact headX rfl rfl (by simp -implicitDefEqProofs only [go_sem, hsz, hN1, hN2, hN3, ht27, hb, ht34, hx, ht37, hk, hc, hkc, hbn, hbn0]; rfl)
              refine fa_cons ?_ ?_
              · show HeadAt Try.prog _ ((Fr.of [(1, .box g0 (fnRow f)), (3, .box (g0 + 2) [.own (g0 + 1) 1 ((ndOf N (rootsTo f b ++ (blk.ins.take i).flatMap insRoots)).1.map boolRow)]), (4, .box (g0 + 3) [.own idw 1 ((ndOf N (rootsTo f b ++ (blk.ins.take i).flatMap insRoots)).2.map intRow)]), (5, .clo 100 [.adr (3, []) (g0 + 2) 0 0 0, .adr (4, []) (g0 + 3) 0 0 0]), (6, AV.own (g0 + 5) 1 (cs.map cellRow)), (8, .box g5 (blockRow blk)), (10, .box g6 (insRow x)), (24, .fz (f.blocks.map blockRow)), (25, .int .i64 f.blocks.length), (26, .int .i64 b), (31, .fz (blk.ins.map insRow)), (32, .int .i64 blk.ins.length), (33, .int .i64 i)] (g7) 137).see [40, 41, 42, 43, 44, 45, 46, 47, 48, 49] [?v0_0, ?v0_1, ?v0_2, ?v0_3, ?v0_4, ?v0_5, ?v0_6, ?v0_7, ?v0_8, ?v0_9] [3, 4, 5]) 6 ?v0_6
                exact headX rfl rfl (by simp -implicitDefEqProofs only [go_sem, hsz, hN1, hN2, hN3, ht27, hb, ht34, hx, ht37, hk, hc, hkc, hbn, hbn0]; rfl)
              refine fa_cons ?_ ?_
              · show HeadAt Try.prog _ ((Fr.of [(1, .box g0 (fnRow f)), (3, .box (g0 + 2) [.own (g0 + 1) 1 ((ndOf N (rootsTo f b ++ (blk.ins.take i).flatMap insRoots)).1.map boolRow)]), (4, .box (g0 + 3) [.own idw 1 ((ndOf N (rootsTo f b ++ (blk.ins.take i).flatMap insRoots)).2.map intRow)]), (5, .clo 100 [.adr (3, []) (g0 + 2) 0 0 0, .adr (4, []) (g0 + 3) 0 0 0]), (6, AV.own (g0 + 5) 1 (cs.map cellRow)), (8, .box g5 (blockRow blk)), (10, .box g6 (insRow x)), (24, .fz (f.blocks.map blockRow)), (25, .int .i64 f.blocks.length), (26, .int .i64 b), (31, .fz (blk.ins.map insRow)), (32, .int .i64 blk.ins.length), (33, .int .i64 i)] (g7) 137).see [40, 41, 42, 43, 44, 45, 46, 47, 48, 49] [?v0_0, ?v0_1, ?v0_2, ?v0_3, ?v0_4, ?v0_5, ?v0_6, ?v0_7, ?v0_8, ?v0_9] [3, 4, 5, 6]) 7 ?v0_7
                exact headX rfl rfl (by simp -implicitDefEqProofs only [go_sem, hsz, hN1, hN2, hN3, ht27, hb, ht34, hx, ht37, hk, hc, hkc, hbn, hbn0]; rfl)
              refine fa_cons ?_ ?_
              · show HeadAt Try.prog _ ((Fr.of [(1, .box g0 (fnRow f)), (3, .box (g0 + 2) [.own (g0 + 1) 1 ((ndOf N (rootsTo f b ++ (blk.ins.take i).flatMap insRoots)).1.map boolRow)]), (4, .box (g0 + 3) [.own idw 1 ((ndOf N (rootsTo f b ++ (blk.ins.take i).flatMap insRoots)).2.map intRow)]), (5, .clo 100 [.adr (3, []) (g0 + 2) 0 0 0, .adr (4, []) (g0 + 3) 0 0 0]), (6, AV.own (g0 + 5) 1 (cs.map cellRow)), (8, .box g5 (blockRow blk)), (10, .box g6 (insRow x)), (24, .fz (f.blocks.map blockRow)), (25, .int .i64 f.blocks.length), (26, .int .i64 b), (31, .fz (blk.ins.map insRow)), (32, .int .i64 blk.ins.length), (33, .int .i64 i)] (g7) 137).see [40, 41, 42, 43, 44, 45, 46, 47, 48, 49] [?v0_0, ?v0_1, ?v0_2, ?v0_3, ?v0_4, ?v0_5, ?v0_6, ?v0_7, ?v0_8, ?v0_9] []) 8 ?v0_8
                exact headX rfl rfl (by simp -implicitDefEqProofs only [go_sem, hsz, hN1, hN2, hN3, ht27, hb, ht34, hx, ht37, hk, hc, hkc, hbn, hbn0]; rfl)
              refine fa_cons ?_ ?_
              · show HeadAt Try.prog _ ((Fr.of [(1, .box g0 (fnRow f)), (3, .box (g0 + 2) [.own (g0 + 1) 1 ((ndOf N (rootsTo f b ++ (blk.ins.take i).flatMap insRoots)).1.map boolRow)]), (4, .box (g0 + 3) [.own idw 1 ((ndOf N (rootsTo f b ++ (blk.ins.take i).flatMap insRoots)).2.map intRow)]), (5, .clo 100 [.adr (3, []) (g0 + 2) 0 0 0, .adr (4, []) (g0 + 3) 0 0 0]), (6, AV.own (g0 + 5) 1 (cs.map cellRow)), (8, .box g5 (blockRow blk)), (10, .box g6 (insRow x)), (24, .fz (f.blocks.map blockRow)), (25, .int .i64 f.blocks.length), (26, .int .i64 b), (31, .fz (blk.ins.map insRow)), (32, .int .i64 blk.ins.length), (33, .int .i64 i)] (g7) 137).see [40, 41, 42, 43, 44, 45, 46, 47, 48, 49] [?v0_0, ?v0_1, ?v0_2, ?v0_3, ?v0_4, ?v0_5, ?v0_6, ?v0_7, ?v0_8, ?v0_9] [8]) 9 (.fz ((dceLooks x).map intRow))
                exact headC rfl rfl rfl (by simp -implicitDefEqProofs only [go_sem, hsz, hN1, hN2, hN3, ht27, hb, ht34, hx, ht37, hk, hc, hkc, hbn, hbn0] <;> rfl) ((fun101 x).obf)
              refine fa_cons ?_ ?_
              · show HeadAt Try.prog _ ((Fr.of [(1, .box g0 (fnRow f)), (3, .box (g0 + 2) [.own (g0 + 1) 1 ((ndOf N (rootsTo f b ++ (blk.ins.take i).flatMap insRoots)).1.map boolRow)]), (4, .box (g0 + 3) [.own idw 1 ((ndOf N (rootsTo f b ++ (blk.ins.take i).flatMap insRoots)).2.map intRow)]), (5, .clo 100 [.adr (3, []) (g0 + 2) 0 0 0, .adr (4, []) (g0 + 3) 0 0 0]), (6, AV.own (g0 + 5) 1 (cs.map cellRow)), (8, .box g5 (blockRow blk)), (10, .box g6 (insRow x)), (24, .fz (f.blocks.map blockRow)), (25, .int .i64 f.blocks.length), (26, .int .i64 b), (31, .fz (blk.ins.map insRow)), (32, .int .i64 blk.ins.length), (33, .int .i64 i), (50, AV.own g7 1 ((dceLooks x).map intRow))] (g7 + 1) 137).see [40, 41, 42, 43, 44, 45, 46, 47, 48, 49] [?v0_0, ?v0_1, ?v0_2, ?v0_3, ?v0_4, ?v0_5, ?v0_6, ?v0_7, ?v0_8, ?v0_9] []) 0 ?v0_0
                exact headX rfl rfl (by simp -implicitDefEqProofs only [go_sem, hsz, hN1, hN2, hN3, ht27, hb, ht34, hx, ht37, hk, hc, hkc, hbn, hbn0])
              refine fa_cons ?_ ?_
              · show HeadAt Try.prog _ ((Fr.of [(1, .box g0 (fnRow f)), (3, .box (g0 + 2) [.own (g0 + 1) 1 ((ndOf N (rootsTo f b ++ (blk.ins.take i).flatMap insRoots)).1.map boolRow)]), (4, .box (g0 + 3) [.own idw 1 ((ndOf N (rootsTo f b ++ (blk.ins.take i).flatMap insRoots)).2.map intRow)]), (5, .clo 100 [.adr (3, []) (g0 + 2) 0 0 0, .adr (4, []) (g0 + 3) 0 0 0]), (6, AV.own (g0 + 5) 1 (cs.map cellRow)), (8, .box g5 (blockRow blk)), (10, .box g6 (insRow x)), (24, .fz (f.blocks.map blockRow)), (25, .int .i64 f.blocks.length), (26, .int .i64 b), (31, .fz (blk.ins.map insRow)), (32, .int .i64 blk.ins.length), (33, .int .i64 i), (50, AV.own g7 1 ((dceLooks x).map intRow))] (g7 + 1) 137).see [40, 41, 42, 43, 44, 45, 46, 47, 48, 49] [?v0_0, ?v0_1, ?v0_2, ?v0_3, ?v0_4, ?v0_5, ?v0_6, ?v0_7, ?v0_8, ?v0_9] []) 1 ?v0_1
                exact headX rfl rfl (by simp -implicitDefEqProofs only [go_sem, hsz, hN1, hN2, hN3, ht27, hb, ht34, hx, ht37, hk, hc, hkc, hbn, hbn0])
              refine fa_cons ?_ ?_
              · show HeadAt Try.prog _ ((Fr.of [(1, .box g0 (fnRow f)), (3, .box (g0 + 2) [.own (g0 + 1) 1 ((ndOf N (rootsTo f b ++ (blk.ins.take i).flatMap insRoots)).1.map boolRow)]), (4, .box (g0 + 3) [.own idw 1 ((ndOf N (rootsTo f b ++ (blk.ins.take i).flatMap insRoots)).2.map intRow)]), (5, .clo 100 [.adr (3, []) (g0 + 2) 0 0 0, .adr (4, []) (g0 + 3) 0 0 0]), (6, AV.own (g0 + 5) 1 (cs.map cellRow)), (8, .box g5 (blockRow blk)), (10, .box g6 (insRow x)), (24, .fz (f.blocks.map blockRow)), (25, .int .i64 f.blocks.length), (26, .int .i64 b), (31, .fz (blk.ins.map insRow)), (32, .int .i64 blk.ins.length), (33, .int .i64 i), (50, AV.own g7 1 ((dceLooks x).map intRow))] (g7 + 1) 137).see [40, 41, 42, 43, 44, 45, 46, 47, 48, 49] [?v0_0, ?v0_1, ?v0_2, ?v0_3, ?v0_4, ?v0_5, ?v0_6, ?v0_7, ?v0_8, ?v0_9] [1]) 2 ?v0_2
                exact headX rfl rfl (by simp -implicitDefEqProofs only [go_sem, hsz, hN1, hN2, hN3, ht27, hb, ht34, hx, ht37, hk, hc, hkc, hbn, hbn0])
              exact fa_nil
            · refine fa_cons ?_ ?_
              · show ChainAt Try.prog K _ [40, 41, 42, 43, 44, 45, 46, 47, 48, 49] (Fr.of [(1, .box g0 (fnRow f)), (3, .box (g0 + 2) [.own (g0 + 1) 1 ((ndOf N (rootsTo f b ++ (blk.ins.take i).flatMap insRoots)).1.map boolRow)]), (4, .box (g0 + 3) [.own idw 1 ((ndOf N (rootsTo f b ++ (blk.ins.take i).flatMap insRoots)).2.map intRow)]), (5, .clo 100 [.adr (3, []) (g0 + 2) 0 0 0, .adr (4, []) (g0 + 3) 0 0 0]), (6, AV.own (g0 + 5) 1 (cs.map cellRow)), (8, .box g5 (blockRow blk)), (10, .box g6 (insRow x)), (24, .fz (f.blocks.map blockRow)), (25, .int .i64 f.blocks.length), (26, .int .i64 b), (31, .fz (blk.ins.map insRow)), (32, .int .i64 blk.ins.length), (33, .int .i64 i)] (g7) 137) (Fr.of [(1, .box g0 (fnRow f)), (3, .box (g0 + 2) [.own (g0 + 1) 1 ((ndOf N (rootsTo f b ++ (blk.ins.take i).flatMap insRoots)).1.map boolRow)]), (4, .box (g0 + 3) [.own idw 1 ((ndOf N (rootsTo f b ++ (blk.ins.take i).flatMap insRoots)).2.map intRow)]), (5, .clo 100 [.adr (3, []) (g0 + 2) 0 0 0, .adr (4, []) (g0 + 3) 0 0 0]), (6, AV.own (g0 + 5) 1 (cs.map cellRow)), (8, .box g5 (blockRow blk)), (10, .box g6 (insRow x)), (24, .fz (f.blocks.map blockRow)), (25, .int .i64 f.blocks.length), (26, .int .i64 b), (31, .fz (blk.ins.map insRow)), (32, .int .i64 blk.ins.length), (33, .int .i64 i), (50, AV.own g7 1 ((dceLooks x).map intRow))] (g7 + 1) 137) 10 [(3, ?v0_3), (4, ?v0_4), (5, ?v0_5), (6, ?v0_6), (7, ?v0_7), (8, ?v0_8), (9, ?v0_9)] 10
                refine chainX rfl rfl (fun xs hx hq => ?_)
                simp only [fa_c, fa_n, and_true] at hq
                refine ⟨_, by simp -implicitDefEqProofs only [go_sem, hq, hsz, hN1, hN2, hN3, ht27, hb, ht34, hx, ht37, hk, hc, hkc, hbn, hbn0]; rfl, by simp -implicitDefEqProofs only [go_sem], by simp -implicitDefEqProofs only [go_sem], by simp -implicitDefEqProofs only [go_sem, hq, hsz, hN1, hN2, hN3, ht27, hb, ht34, hx, ht37, hk, hc, hkc, hbn, hbn0], by simp -implicitDefEqProofs only [go_sem, fa_c, fa_n, and_true]⟩
              refine fa_cons ?_ ?_
              · show ChainAt Try.prog K _ [40, 41, 42, 43, 44, 45, 46, 47, 48, 49] (Fr.of [(1, .box g0 (fnRow f)), (3, .box (g0 + 2) [.own (g0 + 1) 1 ((ndOf N (rootsTo f b ++ (blk.ins.take i).flatMap insRoots)).1.map boolRow)]), (4, .box (g0 + 3) [.own idw 1 ((ndOf N (rootsTo f b ++ (blk.ins.take i).flatMap insRoots)).2.map intRow)]), (5, .clo 100 [.adr (3, []) (g0 + 2) 0 0 0, .adr (4, []) (g0 + 3) 0 0 0]), (6, AV.own (g0 + 5) 1 (cs.map cellRow)), (8, .box g5 (blockRow blk)), (10, .box g6 (insRow x)), (24, .fz (f.blocks.map blockRow)), (25, .int .i64 f.blocks.length), (26, .int .i64 b), (31, .fz (blk.ins.map insRow)), (32, .int .i64 blk.ins.length), (33, .int .i64 i), (50, AV.own g7 1 ((dceLooks x).map intRow))] (g7 + 1) 137) (Fr.of [(1, .box g0 (fnRow f)), (3, .box (g0 + 2) [.own (g0 + 1) 1 ((ndOf N (rootsTo f b ++ (blk.ins.take i).flatMap insRoots)).1.map boolRow)]), (4, .box (g0 + 3) [.own idw 1 ((ndOf N (rootsTo f b ++ (blk.ins.take i).flatMap insRoots)).2.map intRow)]), (5, .clo 100 [.adr (3, []) (g0 + 2) 0 0 0, .adr (4, []) (g0 + 3) 0 0 0]), (6, AV.own (g0 + 5) 1 (cs.map cellRow)), (8, .box g5 (blockRow blk)), (10, .box g6 (insRow x)), (24, .fz (f.blocks.map blockRow)), (25, .int .i64 f.blocks.length), (26, .int .i64 b), (31, .fz (blk.ins.map insRow)), (32, .int .i64 blk.ins.length), (33, .int .i64 i), (50, AV.own g7 1 ((dceLooks x).map intRow)), (51, AV.adr (6, []) (g0 + 5) 1 k 0)] (g7 + 1) 137) 11 [(0, ?v0_0), (1, ?v0_1), (2, ?v0_2), (3, ?v0_3), (4, ?v0_4), (5, ?v0_5), (6, ?v0_6), (7, ?v0_7), (8, ?v0_8), (9, ?v0_9)] 10
                refine chainX rfl rfl (fun xs hx hq => ?_)
                simp only [fa_c, fa_n, and_true] at hq
                refine ⟨_, by simp -implicitDefEqProofs only [go_sem, hq, hsz, hN1, hN2, hN3, ht27, hb, ht34, hx, ht37, hk, hc, hkc, hbn, hbn0]; rfl, by simp -implicitDefEqProofs only [go_sem], by simp -implicitDefEqProofs only [go_sem], by simp -implicitDefEqProofs only [go_sem, hq, hsz, hN1, hN2, hN3, ht27, hb, ht34, hx, ht37, hk, hc, hkc, hbn, hbn0], by simp -implicitDefEqProofs only [go_sem, fa_c, fa_n, and_true]⟩
              refine fa_cons ?_ ?_
              · show ChainAt Try.prog K _ [40, 41, 42, 43, 44, 45, 46, 47, 48, 49] (Fr.of [(1, .box g0 (fnRow f)), (3, .box (g0 + 2) [.own (g0 + 1) 1 ((ndOf N (rootsTo f b ++ (blk.ins.take i).flatMap insRoots)).1.map boolRow)]), (4, .box (g0 + 3) [.own idw 1 ((ndOf N (rootsTo f b ++ (blk.ins.take i).flatMap insRoots)).2.map intRow)]), (5, .clo 100 [.adr (3, []) (g0 + 2) 0 0 0, .adr (4, []) (g0 + 3) 0 0 0]), (6, AV.own (g0 + 5) 1 (cs.map cellRow)), (8, .box g5 (blockRow blk)), (10, .box g6 (insRow x)), (24, .fz (f.blocks.map blockRow)), (25, .int .i64 f.blocks.length), (26, .int .i64 b), (31, .fz (blk.ins.map insRow)), (32, .int .i64 blk.ins.length), (33, .int .i64 i), (50, AV.own g7 1 ((dceLooks x).map intRow)), (51, AV.adr (6, []) (g0 + 5) 1 k 0)] (g7 + 1) 137) (Fr.of [(1, .box g0 (fnRow f)), (3, .box (g0 + 2) [.own (g0 + 1) 1 ((ndOf N (rootsTo f b ++ (blk.ins.take i).flatMap insRoots)).1.map boolRow)]), (4, .box (g0 + 3) [.own idw 1 ((ndOf N (rootsTo f b ++ (blk.ins.take i).flatMap insRoots)).2.map intRow)]), (5, .clo 100 [.adr (3, []) (g0 + 2) 0 0 0, .adr (4, []) (g0 + 3) 0 0 0]), (6, AV.own (g0 + 5) 1 ((cs.set k (AV.own g7 1 ((dceLooks x).map intRow))).map cellRow)), (8, .box g5 (blockRow blk)), (10, .box g6 (insRow x)), (24, .fz (f.blocks.map blockRow)), (25, .int .i64 f.blocks.length), (26, .int .i64 b), (31, .fz (blk.ins.map insRow)), (32, .int .i64 blk.ins.length), (33, .int .i64 i)] (g7 + 1) 137) 12 [(0, ?v0_0), (1, ?v0_1), (2, ?v0_2), (3, ?v0_3), (4, ?v0_4), (5, ?v0_5), (6, ?v0_6), (7, ?v0_7), (8, ?v0_8), (9, ?v0_9)] 10
                refine chainX rfl rfl (fun xs hx hq => ?_)
                simp only [fa_c, fa_n, and_true] at hq
                refine ⟨_, by simp -implicitDefEqProofs only [go_sem, hq, hsz, hN1, hN2, hN3, ht27, hb, ht34, hx, ht37, hk, hc, hkc, hbn, hbn0]; rfl, by simp -implicitDefEqProofs only [go_sem], by simp -implicitDefEqProofs only [go_sem], by simp -implicitDefEqProofs only [go_sem, hq, hsz, hN1, hN2, hN3, ht27, hb, ht34, hx, ht37, hk, hc, hkc, hbn, hbn0], by simp -implicitDefEqProofs only [go_sem, fa_c, fa_n, and_true]⟩
              exact fa_nil
            show AW _ _ _ _ _
            refine AW.run [] (by simp -implicitDefEqProofs only [go_sem, hsz, hN1, hN2, hN3, ht27, hb, ht34, hx, ht37, hk, hc, hkc, hbn, hbn0]; rfl) (by trivial) ?_
            exact ⟨hlti, (idw, cs.set k (AV.own g7 1 ((dceLooks x).map intRow))), by rw [hsp]; exact hcs.set, ⟨by simp -implicitDefEqProofs only [go_sem], by simp -implicitDefEqProofs only [go_sem, hsz, hN1, hN2, hN3, ht27, hb, ht34, hx, ht37, hk, hc, hkc, hbn, hbn0, step_int i (Nat.lt_of_lt_of_le hlti (by omega)), hrts]; try simp [hsz, hN1, hN2, hN3, ht27, hb, ht34, hx, ht37, hk, hc, hkc, hbn, hbn0, step_int i (Nat.lt_of_lt_of_le hlti (by omega)), hrts]⟩⟩
          · refine AW.has (n := 137) [(1, .box g0 (fnRow f)), (3, .box (g0 + 2) [.own (g0 + 1) 1 ((ndOf N (rootsTo f b ++ (blk.ins.take i).flatMap insRoots)).1.map boolRow)]), (4, .box (g0 + 3) [.own idw 1 ((ndOf N (rootsTo f b ++ (blk.ins.take i).flatMap insRoots)).2.map intRow)]), (5, .clo 100 [.adr (3, []) (g0 + 2) 0 0 0, .adr (4, []) (g0 + 3) 0 0 0]), (6, AV.own (g0 + 5) 1 (cs.map cellRow)), (8, .box g5 (blockRow blk)), (10, .box g6 (insRow x)), (24, .fz (f.blocks.map blockRow)), (25, .int .i64 f.blocks.length), (26, .int .i64 b), (31, .fz (blk.ins.map insRow)), (32, .int .i64 blk.ins.length), (33, .int .i64 i)] (⟨by simp -implicitDefEqProofs only [go_sem], by simp -implicitDefEqProofs only [go_sem, hsz, hN1, hN2, hN3, ht27, hb, ht34, hx, ht37, hk, hc, hkc, hbn, hbn0]; try simp [hsz, hN1, hN2, hN3, ht27, hb, ht34, hx, ht37, hk, hc, hkc, hbn, hbn0]⟩) (fun g8 => ?_)
            refine AW.drw2 [0, 1, 2, 3, 4, 5, 6, 7, 8, 9] [10, 11, 12] [[], [], [1], [], [], [4], [3, 4, 5], [3, 4, 5, 6], [], [8], [3, 4, 5, 6, 7, 8, 9], [0, 1, 2, 3, 4, 5, 6, 7, 8, 9, 10], [0, 1, 2, 3, 4, 5, 6, 7, 8, 9, 10, 11]] [40, 41, 42, 43, 44, 45, 46, 47, 48, 49] [?v1_0, ?v1_1, ?v1_2, ?v1_3, ?v1_4, ?v1_5, ?v1_6, ?v1_7, ?v1_8, ?v1_9] [([(1, .box g0 (fnRow f)), (3, .box (g0 + 2) [.own (g0 + 1) 1 ((ndOf N (rootsTo f b ++ (blk.ins.take i).flatMap insRoots)).1.map boolRow)]), (4, .box (g0 + 3) [.own idw 1 ((ndOf N (rootsTo f b ++ (blk.ins.take i).flatMap insRoots)).2.map intRow)]), (5, .clo 100 [.adr (3, []) (g0 + 2) 0 0 0, .adr (4, []) (g0 + 3) 0 0 0]), (6, AV.own (g0 + 5) 1 (cs.map cellRow)), (8, .box g5 (blockRow blk)), (10, .box g6 (insRow x)), (24, .fz (f.blocks.map blockRow)), (25, .int .i64 f.blocks.length), (26, .int .i64 b), (31, .fz (blk.ins.map insRow)), (32, .int .i64 blk.ins.length), (33, .int .i64 i)], g8), ([(1, .box g0 (fnRow f)), (3, .box (g0 + 2) [.own (g0 + 1) 1 ((ndOf N (rootsTo f b ++ (blk.ins.take i).flatMap insRoots)).1.map boolRow)]), (4, .box (g0 + 3) [.own idw 1 ((ndOf N (rootsTo f b ++ (blk.ins.take i).flatMap insRoots)).2.map intRow)]), (5, .clo 100 [.adr (3, []) (g0 + 2) 0 0 0, .adr (4, []) (g0 + 3) 0 0 0]), (6, AV.own (g0 + 5) 1 ((cs.set k AV.undef).map cellRow)), (8, .box g5 (blockRow blk)), (10, .box g6 (insRow x)), (24, .fz (f.blocks.map blockRow)), (25, .int .i64 f.blocks.length), (26, .int .i64 b), (31, .fz (blk.ins.map insRow)), (32, .int .i64 blk.ins.length), (33, .int .i64 i), (50, AV.own g8 1 ((w ++ dceLooks x).map intRow))], g8 + 1), ([(1, .box g0 (fnRow f)), (3, .box (g0 + 2) [.own (g0 + 1) 1 ((ndOf N (rootsTo f b ++ (blk.ins.take i).flatMap insRoots)).1.map boolRow)]), (4, .box (g0 + 3) [.own idw 1 ((ndOf N (rootsTo f b ++ (blk.ins.take i).flatMap insRoots)).2.map intRow)]), (5, .clo 100 [.adr (3, []) (g0 + 2) 0 0 0, .adr (4, []) (g0 + 3) 0 0 0]), (6, AV.own (g0 + 5) 1 ((cs.set k AV.undef).map cellRow)), (8, .box g5 (blockRow blk)), (10, .box g6 (insRow x)), (24, .fz (f.blocks.map blockRow)), (25, .int .i64 f.blocks.length), (26, .int .i64 b), (31, .fz (blk.ins.map insRow)), (32, .int .i64 blk.ins.length), (33, .int .i64 i), (50, AV.own g8 1 ((w ++ dceLooks x).map intRow)), (51, AV.adr (6, []) (g0 + 5) 1 k 0)], g8 + 1), ([(1, .box g0 (fnRow f)), (3, .box (g0 + 2) [.own (g0 + 1) 1 ((ndOf N (rootsTo f b ++ (blk.ins.take i).flatMap insRoots)).1.map boolRow)]), (4, .box (g0 + 3) [.own idw 1 ((ndOf N (rootsTo f b ++ (blk.ins.take i).flatMap insRoots)).2.map intRow)]), (5, .clo 100 [.adr (3, []) (g0 + 2) 0 0 0, .adr (4, []) (g0 + 3) 0 0 0]), (6, AV.own (g0 + 5) 1 ((cs.set k (AV.own g8 1 ((w ++ dceLooks x).map intRow))).map cellRow)), (8, .box g5 (blockRow blk)), (10, .box g6 (insRow x)), (24, .fz (f.blocks.map blockRow)), (25, .int .i64 f.blocks.length), (26, .int .i64 b), (31, .fz (blk.ins.map insRow)), (32, .int .i64 blk.ins.length), (33, .int .i64 i)], g8 + 1)] f_mix (by decide) (by rfl) (by rfl) (by rfl) [(0, 0), (0, 1), (0, 2), (0, 3), (0, 4), (0, 5), (0, 6), (0, 7), (0, 8), (0, 9), (1, 0), (1, 1), (1, 2)] (by rfl) ?_ ?_ ?_
            rotate_left 10
            · refine fa_cons ?_ ?_
              · show HeadAt Try.prog _ ((Fr.of [(1, .box g0 (fnRow f)), (3, .box (g0 + 2) [.own (g0 + 1) 1 ((ndOf N (rootsTo f b ++ (blk.ins.take i).flatMap insRoots)).1.map boolRow)]), (4, .box (g0 + 3) [.own idw 1 ((ndOf N (rootsTo f b ++ (blk.ins.take i).flatMap insRoots)).2.map intRow)]), (5, .clo 100 [.adr (3, []) (g0 + 2) 0 0 0, .adr (4, []) (g0 + 3) 0 0 0]), (6, AV.own (g0 + 5) 1 (cs.map cellRow)), (8, .box g5 (blockRow blk)), (10, .box g6 (insRow x)), (24, .fz (f.blocks.map blockRow)), (25, .int .i64 f.blocks.length), (26, .int .i64 b), (31, .fz (blk.ins.map insRow)), (32, .int .i64 blk.ins.length), (33, .int .i64 i)] (g8) 137).see [40, 41, 42, 43, 44, 45, 46, 47, 48, 49] [?v1_0, ?v1_1, ?v1_2, ?v1_3, ?v1_4, ?v1_5, ?v1_6, ?v1_7, ?v1_8, ?v1_9] []) 0 ?v1_0
                exact headX rfl rfl (by simp -implicitDefEqProofs only [go_sem, hsz, hN1, hN2, hN3, ht27, hb, ht34, hx, ht37, hk, hc, hkc, hbn, hbn0]; rfl)
              refine fa_cons ?_ ?_
              · show HeadAt Try.prog _ ((Fr.of [(1, .box g0 (fnRow f)), (3, .box (g0 + 2) [.own (g0 + 1) 1 ((ndOf N (rootsTo f b ++ (blk.ins.take i).flatMap insRoots)).1.map boolRow)]), (4, .box (g0 + 3) [.own idw 1 ((ndOf N (rootsTo f b ++ (blk.ins.take i).flatMap insRoots)).2.map intRow)]), (5, .clo 100 [.adr (3, []) (g0 + 2) 0 0 0, .adr (4, []) (g0 + 3) 0 0 0]), (6, AV.own (g0 + 5) 1 (cs.map cellRow)), (8, .box g5 (blockRow blk)), (10, .box g6 (insRow x)), (24, .fz (f.blocks.map blockRow)), (25, .int .i64 f.blocks.length), (26, .int .i64 b), (31, .fz (blk.ins.map insRow)), (32, .int .i64 blk.ins.length), (33, .int .i64 i)] (g8) 137).see [40, 41, 42, 43, 44, 45, 46, 47, 48, 49] [?v1_0, ?v1_1, ?v1_2, ?v1_3, ?v1_4, ?v1_5, ?v1_6, ?v1_7, ?v1_8, ?v1_9] []) 1 ?v1_1
                exact headX rfl rfl (by simp -implicitDefEqProofs only [go_sem, hsz, hN1, hN2, hN3, ht27, hb, ht34, hx, ht37, hk, hc, hkc, hbn, hbn0]; rfl)
              refine fa_cons ?_ ?_
              · show HeadAt Try.prog _ ((Fr.of [(1, .box g0 (fnRow f)), (3, .box (g0 + 2) [.own (g0 + 1) 1 ((ndOf N (rootsTo f b ++ (blk.ins.take i).flatMap insRoots)).1.map boolRow)]), (4, .box (g0 + 3) [.own idw 1 ((ndOf N (rootsTo f b ++ (blk.ins.take i).flatMap insRoots)).2.map intRow)]), (5, .clo 100 [.adr (3, []) (g0 + 2) 0 0 0, .adr (4, []) (g0 + 3) 0 0 0]), (6, AV.own (g0 + 5) 1 (cs.map cellRow)), (8, .box g5 (blockRow blk)), (10, .box g6 (insRow x)), (24, .fz (f.blocks.map blockRow)), (25, .int .i64 f.blocks.length), (26, .int .i64 b), (31, .fz (blk.ins.map insRow)), (32, .int .i64 blk.ins.length), (33, .int .i64 i)] (g8) 137).see [40, 41, 42, 43, 44, 45, 46, 47, 48, 49] [?v1_0, ?v1_1, ?v1_2, ?v1_3, ?v1_4, ?v1_5, ?v1_6, ?v1_7, ?v1_8, ?v1_9] [1]) 2 ?v1_2
                exact headX rfl rfl (by simp -implicitDefEqProofs only [go_sem, hsz, hN1, hN2, hN3, ht27, hb, ht34, hx, ht37, hk, hc, hkc, hbn, hbn0]; rfl)
              refine fa_cons ?_ ?_
              · show HeadAt Try.prog _ ((Fr.of [(1, .box g0 (fnRow f)), (3, .box (g0 + 2) [.own (g0 + 1) 1 ((ndOf N (rootsTo f b ++ (blk.ins.take i).flatMap insRoots)).1.map boolRow)]), (4, .box (g0 + 3) [.own idw 1 ((ndOf N (rootsTo f b ++ (blk.ins.take i).flatMap insRoots)).2.map intRow)]), (5, .clo 100 [.adr (3, []) (g0 + 2) 0 0 0, .adr (4, []) (g0 + 3) 0 0 0]), (6, AV.own (g0 + 5) 1 (cs.map cellRow)), (8, .box g5 (blockRow blk)), (10, .box g6 (insRow x)), (24, .fz (f.blocks.map blockRow)), (25, .int .i64 f.blocks.length), (26, .int .i64 b), (31, .fz (blk.ins.map insRow)), (32, .int .i64 blk.ins.length), (33, .int .i64 i)] (g8) 137).see [40, 41, 42, 43, 44, 45, 46, 47, 48, 49] [?v1_0, ?v1_1, ?v1_2, ?v1_3, ?v1_4, ?v1_5, ?v1_6, ?v1_7, ?v1_8, ?v1_9] []) 3 ?v1_3
                exact headX rfl rfl (by simp -implicitDefEqProofs only [go_sem, hsz, hN1, hN2, hN3, ht27, hb, ht34, hx, ht37, hk, hc, hkc, hbn, hbn0]; rfl)
              refine fa_cons ?_ ?_
              · show HeadAt Try.prog _ ((Fr.of [(1, .box g0 (fnRow f)), (3, .box (g0 + 2) [.own (g0 + 1) 1 ((ndOf N (rootsTo f b ++ (blk.ins.take i).flatMap insRoots)).1.map boolRow)]), (4, .box (g0 + 3) [.own idw 1 ((ndOf N (rootsTo f b ++ (blk.ins.take i).flatMap insRoots)).2.map intRow)]), (5, .clo 100 [.adr (3, []) (g0 + 2) 0 0 0, .adr (4, []) (g0 + 3) 0 0 0]), (6, AV.own (g0 + 5) 1 (cs.map cellRow)), (8, .box g5 (blockRow blk)), (10, .box g6 (insRow x)), (24, .fz (f.blocks.map blockRow)), (25, .int .i64 f.blocks.length), (26, .int .i64 b), (31, .fz (blk.ins.map insRow)), (32, .int .i64 blk.ins.length), (33, .int .i64 i)] (g8) 137).see [40, 41, 42, 43, 44, 45, 46, 47, 48, 49] [?v1_0, ?v1_1, ?v1_2, ?v1_3, ?v1_4, ?v1_5, ?v1_6, ?v1_7, ?v1_8, ?v1_9] []) 4 ?v1_4
                exact headX rfl rfl (by simp -implicitDefEqProofs only [go_sem, hsz, hN1, hN2, hN3, ht27, hb, ht34, hx, ht37, hk, hc, hkc, hbn, hbn0]; rfl)
              refine fa_cons ?_ ?_
              · show HeadAt Try.prog _ ((Fr.of [(1, .box g0 (fnRow f)), (3, .box (g0 + 2) [.own (g0 + 1) 1 ((ndOf N (rootsTo f b ++ (blk.ins.take i).flatMap insRoots)).1.map boolRow)]), (4, .box (g0 + 3) [.own idw 1 ((ndOf N (rootsTo f b ++ (blk.ins.take i).flatMap insRoots)).2.map intRow)]), (5, .clo 100 [.adr (3, []) (g0 + 2) 0 0 0, .adr (4, []) (g0 + 3) 0 0 0]), (6, AV.own (g0 + 5) 1 (cs.map cellRow)), (8, .box g5 (blockRow blk)), (10, .box g6 (insRow x)), (24, .fz (f.blocks.map blockRow)), (25, .int .i64 f.blocks.length), (26, .int .i64 b), (31, .fz (blk.ins.map insRow)), (32, .int .i64 blk.ins.length), (33, .int .i64 i)] (g8) 137).see [40, 41, 42, 43, 44, 45, 46, 47, 48, 49] [?v1_0, ?v1_1, ?v1_2, ?v1_3, ?v1_4, ?v1_5, ?v1_6, ?v1_7, ?v1_8, ?v1_9] [4]) 5 ?v1_5
                exact headX rfl rfl (by simp -implicitDefEqProofs only [go_sem, hsz, hN1, hN2, hN3, ht27, hb, ht34, hx, ht37, hk, hc, hkc, hbn, hbn0]; rfl)
              refine fa_cons ?_ ?_
              · show HeadAt Try.prog _ ((Fr.of [(1, .box g0 (fnRow f)), (3, .box (g0 + 2) [.own (g0 + 1) 1 ((ndOf N (rootsTo f b ++ (blk.ins.take i).flatMap insRoots)).1.map boolRow)]), (4, .box (g0 + 3) [.own idw 1 ((ndOf N (rootsTo f b ++ (blk.ins.take i).flatMap insRoots)).2.map intRow)]), (5, .clo 100 [.adr (3, []) (g0 + 2) 0 0 0, .adr (4, []) (g0 + 3) 0 0 0]), (6, AV.own (g0 + 5) 1 (cs.map cellRow)), (8, .box g5 (blockRow blk)), (10, .box g6 (insRow x)), (24, .fz (f.blocks.map blockRow)), (25, .int .i64 f.blocks.length), (26, .int .i64 b), (31, .fz (blk.ins.map insRow)), (32, .int .i64 blk.ins.length), (33, .int .i64 i)] (g8) 137).see [40, 41, 42, 43, 44, 45, 46, 47, 48, 49] [?v1_0, ?v1_1, ?v1_2, ?v1_3, ?v1_4, ?v1_5, ?v1_6, ?v1_7, ?v1_8, ?v1_9] [3, 4, 5]) 6 ?v1_6
                exact headX rfl rfl (by simp -implicitDefEqProofs only [go_sem, hsz, hN1, hN2, hN3, ht27, hb, ht34, hx, ht37, hk, hc, hkc, hbn, hbn0]; rfl)
              refine fa_cons ?_ ?_
              · show HeadAt Try.prog _ ((Fr.of [(1, .box g0 (fnRow f)), (3, .box (g0 + 2) [.own (g0 + 1) 1 ((ndOf N (rootsTo f b ++ (blk.ins.take i).flatMap insRoots)).1.map boolRow)]), (4, .box (g0 + 3) [.own idw 1 ((ndOf N (rootsTo f b ++ (blk.ins.take i).flatMap insRoots)).2.map intRow)]), (5, .clo 100 [.adr (3, []) (g0 + 2) 0 0 0, .adr (4, []) (g0 + 3) 0 0 0]), (6, AV.own (g0 + 5) 1 (cs.map cellRow)), (8, .box g5 (blockRow blk)), (10, .box g6 (insRow x)), (24, .fz (f.blocks.map blockRow)), (25, .int .i64 f.blocks.length), (26, .int .i64 b), (31, .fz (blk.ins.map insRow)), (32, .int .i64 blk.ins.length), (33, .int .i64 i)] (g8) 137).see [40, 41, 42, 43, 44, 45, 46, 47, 48, 49] [?v1_0, ?v1_1, ?v1_2, ?v1_3, ?v1_4, ?v1_5, ?v1_6, ?v1_7, ?v1_8, ?v1_9] [3, 4, 5, 6]) 7 ?v1_7
                exact headX rfl rfl (by simp -implicitDefEqProofs only [go_sem, hsz, hN1, hN2, hN3, ht27, hb, ht34, hx, ht37, hk, hc, hkc, hbn, hbn0]; rfl)
              refine fa_cons ?_ ?_
              · show HeadAt Try.prog _ ((Fr.of [(1, .box g0 (fnRow f)), (3, .box (g0 + 2) [.own (g0 + 1) 1 ((ndOf N (rootsTo f b ++ (blk.ins.take i).flatMap insRoots)).1.map boolRow)]), (4, .box (g0 + 3) [.own idw 1 ((ndOf N (rootsTo f b ++ (blk.ins.take i).flatMap insRoots)).2.map intRow)]), (5, .clo 100 [.adr (3, []) (g0 + 2) 0 0 0, .adr (4, []) (g0 + 3) 0 0 0]), (6, AV.own (g0 + 5) 1 (cs.map cellRow)), (8, .box g5 (blockRow blk)), (10, .box g6 (insRow x)), (24, .fz (f.blocks.map blockRow)), (25, .int .i64 f.blocks.length), (26, .int .i64 b), (31, .fz (blk.ins.map insRow)), (32, .int .i64 blk.ins.length), (33, .int .i64 i)] (g8) 137).see [40, 41, 42, 43, 44, 45, 46, 47, 48, 49] [?v1_0, ?v1_1, ?v1_2, ?v1_3, ?v1_4, ?v1_5, ?v1_6, ?v1_7, ?v1_8, ?v1_9] []) 8 ?v1_8
                exact headX rfl rfl (by simp -implicitDefEqProofs only [go_sem, hsz, hN1, hN2, hN3, ht27, hb, ht34, hx, ht37, hk, hc, hkc, hbn, hbn0]; rfl)
              refine fa_cons ?_ ?_
              · show HeadAt Try.prog _ ((Fr.of [(1, .box g0 (fnRow f)), (3, .box (g0 + 2) [.own (g0 + 1) 1 ((ndOf N (rootsTo f b ++ (blk.ins.take i).flatMap insRoots)).1.map boolRow)]), (4, .box (g0 + 3) [.own idw 1 ((ndOf N (rootsTo f b ++ (blk.ins.take i).flatMap insRoots)).2.map intRow)]), (5, .clo 100 [.adr (3, []) (g0 + 2) 0 0 0, .adr (4, []) (g0 + 3) 0 0 0]), (6, AV.own (g0 + 5) 1 (cs.map cellRow)), (8, .box g5 (blockRow blk)), (10, .box g6 (insRow x)), (24, .fz (f.blocks.map blockRow)), (25, .int .i64 f.blocks.length), (26, .int .i64 b), (31, .fz (blk.ins.map insRow)), (32, .int .i64 blk.ins.length), (33, .int .i64 i)] (g8) 137).see [40, 41, 42, 43, 44, 45, 46, 47, 48, 49] [?v1_0, ?v1_1, ?v1_2, ?v1_3, ?v1_4, ?v1_5, ?v1_6, ?v1_7, ?v1_8, ?v1_9] [8]) 9 (.fz ((dceLooks x).map intRow))
                exact headC rfl rfl rfl (by simp -implicitDefEqProofs only [go_sem, hsz, hN1, hN2, hN3, ht27, hb, ht34, hx, ht37, hk, hc, hkc, hbn, hbn0] <;> rfl) ((fun101 x).obf)
              refine fa_cons ?_ ?_
              · show HeadAt Try.prog _ ((Fr.of [(1, .box g0 (fnRow f)), (3, .box (g0 + 2) [.own (g0 + 1) 1 ((ndOf N (rootsTo f b ++ (blk.ins.take i).flatMap insRoots)).1.map boolRow)]), (4, .box (g0 + 3) [.own idw 1 ((ndOf N (rootsTo f b ++ (blk.ins.take i).flatMap insRoots)).2.map intRow)]), (5, .clo 100 [.adr (3, []) (g0 + 2) 0 0 0, .adr (4, []) (g0 + 3) 0 0 0]), (6, AV.own (g0 + 5) 1 ((cs.set k AV.undef).map cellRow)), (8, .box g5 (blockRow blk)), (10, .box g6 (insRow x)), (24, .fz (f.blocks.map blockRow)), (25, .int .i64 f.blocks.length), (26, .int .i64 b), (31, .fz (blk.ins.map insRow)), (32, .int .i64 blk.ins.length), (33, .int .i64 i), (50, AV.own g8 1 ((w ++ dceLooks x).map intRow))] (g8 + 1) 137).see [40, 41, 42, 43, 44, 45, 46, 47, 48, 49] [?v1_0, ?v1_1, ?v1_2, ?v1_3, ?v1_4, ?v1_5, ?v1_6, ?v1_7, ?v1_8, ?v1_9] []) 0 ?v1_0
                exact headX rfl rfl (by simp -implicitDefEqProofs only [go_sem, hsz, hN1, hN2, hN3, ht27, hb, ht34, hx, ht37, hk, hc, hkc, hbn, hbn0])
              refine fa_cons ?_ ?_
              · show HeadAt Try.prog _ ((Fr.of [(1, .box g0 (fnRow f)), (3, .box (g0 + 2) [.own (g0 + 1) 1 ((ndOf N (rootsTo f b ++ (blk.ins.take i).flatMap insRoots)).1.map boolRow)]), (4, .box (g0 + 3) [.own idw 1 ((ndOf N (rootsTo f b ++ (blk.ins.take i).flatMap insRoots)).2.map intRow)]), (5, .clo 100 [.adr (3, []) (g0 + 2) 0 0 0, .adr (4, []) (g0 + 3) 0 0 0]), (6, AV.own (g0 + 5) 1 ((cs.set k AV.undef).map cellRow)), (8, .box g5 (blockRow blk)), (10, .box g6 (insRow x)), (24, .fz (f.blocks.map blockRow)), (25, .int .i64 f.blocks.length), (26, .int .i64 b), (31, .fz (blk.ins.map insRow)), (32, .int .i64 blk.ins.length), (33, .int .i64 i), (50, AV.own g8 1 ((w ++ dceLooks x).map intRow))] (g8 + 1) 137).see [40, 41, 42, 43, 44, 45, 46, 47, 48, 49] [?v1_0, ?v1_1, ?v1_2, ?v1_3, ?v1_4, ?v1_5, ?v1_6, ?v1_7, ?v1_8, ?v1_9] []) 1 ?v1_1
                exact headX rfl rfl (by simp -implicitDefEqProofs only [go_sem, hsz, hN1, hN2, hN3, ht27, hb, ht34, hx, ht37, hk, hc, hkc, hbn, hbn0])
              refine fa_cons ?_ ?_
              · show HeadAt Try.prog _ ((Fr.of [(1, .box g0 (fnRow f)), (3, .box (g0 + 2) [.own (g0 + 1) 1 ((ndOf N (rootsTo f b ++ (blk.ins.take i).flatMap insRoots)).1.map boolRow)]), (4, .box (g0 + 3) [.own idw 1 ((ndOf N (rootsTo f b ++ (blk.ins.take i).flatMap insRoots)).2.map intRow)]), (5, .clo 100 [.adr (3, []) (g0 + 2) 0 0 0, .adr (4, []) (g0 + 3) 0 0 0]), (6, AV.own (g0 + 5) 1 ((cs.set k AV.undef).map cellRow)), (8, .box g5 (blockRow blk)), (10, .box g6 (insRow x)), (24, .fz (f.blocks.map blockRow)), (25, .int .i64 f.blocks.length), (26, .int .i64 b), (31, .fz (blk.ins.map insRow)), (32, .int .i64 blk.ins.length), (33, .int .i64 i), (50, AV.own g8 1 ((w ++ dceLooks x).map intRow))] (g8 + 1) 137).see [40, 41, 42, 43, 44, 45, 46, 47, 48, 49] [?v1_0, ?v1_1, ?v1_2, ?v1_3, ?v1_4, ?v1_5, ?v1_6, ?v1_7, ?v1_8, ?v1_9] [1]) 2 ?v1_2
                exact headX rfl rfl (by simp -implicitDefEqProofs only [go_sem, hsz, hN1, hN2, hN3, ht27, hb, ht34, hx, ht37, hk, hc, hkc, hbn, hbn0])
              exact fa_nil
            · refine fa_cons ?_ ?_
              · show ChainAt Try.prog K _ [40, 41, 42, 43, 44, 45, 46, 47, 48, 49] (Fr.of [(1, .box g0 (fnRow f)), (3, .box (g0 + 2) [.own (g0 + 1) 1 ((ndOf N (rootsTo f b ++ (blk.ins.take i).flatMap insRoots)).1.map boolRow)]), (4, .box (g0 + 3) [.own idw 1 ((ndOf N (rootsTo f b ++ (blk.ins.take i).flatMap insRoots)).2.map intRow)]), (5, .clo 100 [.adr (3, []) (g0 + 2) 0 0 0, .adr (4, []) (g0 + 3) 0 0 0]), (6, AV.own (g0 + 5) 1 (cs.map cellRow)), (8, .box g5 (blockRow blk)), (10, .box g6 (insRow x)), (24, .fz (f.blocks.map blockRow)), (25, .int .i64 f.blocks.length), (26, .int .i64 b), (31, .fz (blk.ins.map insRow)), (32, .int .i64 blk.ins.length), (33, .int .i64 i)] (g8) 137) (Fr.of [(1, .box g0 (fnRow f)), (3, .box (g0 + 2) [.own (g0 + 1) 1 ((ndOf N (rootsTo f b ++ (blk.ins.take i).flatMap insRoots)).1.map boolRow)]), (4, .box (g0 + 3) [.own idw 1 ((ndOf N (rootsTo f b ++ (blk.ins.take i).flatMap insRoots)).2.map intRow)]), (5, .clo 100 [.adr (3, []) (g0 + 2) 0 0 0, .adr (4, []) (g0 + 3) 0 0 0]), (6, AV.own (g0 + 5) 1 ((cs.set k AV.undef).map cellRow)), (8, .box g5 (blockRow blk)), (10, .box g6 (insRow x)), (24, .fz (f.blocks.map blockRow)), (25, .int .i64 f.blocks.length), (26, .int .i64 b), (31, .fz (blk.ins.map insRow)), (32, .int .i64 blk.ins.length), (33, .int .i64 i), (50, AV.own g8 1 ((w ++ dceLooks x).map intRow))] (g8 + 1) 137) 10 [(3, ?v1_3), (4, ?v1_4), (5, ?v1_5), (6, ?v1_6), (7, ?v1_7), (8, ?v1_8), (9, ?v1_9)] 10
                refine chainX rfl rfl (fun xs hx hq => ?_)
                simp only [fa_c, fa_n, and_true] at hq
                refine ⟨_, by simp -implicitDefEqProofs only [go_sem, hq, hsz, hN1, hN2, hN3, ht27, hb, ht34, hx, ht37, hk, hc, hkc, hbn, hbn0]; rfl, by simp -implicitDefEqProofs only [go_sem], by simp -implicitDefEqProofs only [go_sem], by simp -implicitDefEqProofs only [go_sem, hq, hsz, hN1, hN2, hN3, ht27, hb, ht34, hx, ht37, hk, hc, hkc, hbn, hbn0], by simp -implicitDefEqProofs only [go_sem, fa_c, fa_n, and_true]⟩
              refine fa_cons ?_ ?_
              · show ChainAt Try.prog K _ [40, 41, 42, 43, 44, 45, 46, 47, 48, 49] (Fr.of [(1, .box g0 (fnRow f)), (3, .box (g0 + 2) [.own (g0 + 1) 1 ((ndOf N (rootsTo f b ++ (blk.ins.take i).flatMap insRoots)).1.map boolRow)]), (4, .box (g0 + 3) [.own idw 1 ((ndOf N (rootsTo f b ++ (blk.ins.take i).flatMap insRoots)).2.map intRow)]), (5, .clo 100 [.adr (3, []) (g0 + 2) 0 0 0, .adr (4, []) (g0 + 3) 0 0 0]), (6, AV.own (g0 + 5) 1 ((cs.set k AV.undef).map cellRow)), (8, .box g5 (blockRow blk)), (10, .box g6 (insRow x)), (24, .fz (f.blocks.map blockRow)), (25, .int .i64 f.blocks.length), (26, .int .i64 b), (31, .fz (blk.ins.map insRow)), (32, .int .i64 blk.ins.length), (33, .int .i64 i), (50, AV.own g8 1 ((w ++ dceLooks x).map intRow))] (g8 + 1) 137) (Fr.of [(1, .box g0 (fnRow f)), (3, .box (g0 + 2) [.own (g0 + 1) 1 ((ndOf N (rootsTo f b ++ (blk.ins.take i).flatMap insRoots)).1.map boolRow)]), (4, .box (g0 + 3) [.own idw 1 ((ndOf N (rootsTo f b ++ (blk.ins.take i).flatMap insRoots)).2.map intRow)]), (5, .clo 100 [.adr (3, []) (g0 + 2) 0 0 0, .adr (4, []) (g0 + 3) 0 0 0]), (6, AV.own (g0 + 5) 1 ((cs.set k AV.undef).map cellRow)), (8, .box g5 (blockRow blk)), (10, .box g6 (insRow x)), (24, .fz (f.blocks.map blockRow)), (25, .int .i64 f.blocks.length), (26, .int .i64 b), (31, .fz (blk.ins.map insRow)), (32, .int .i64 blk.ins.length), (33, .int .i64 i), (50, AV.own g8 1 ((w ++ dceLooks x).map intRow)), (51, AV.adr (6, []) (g0 + 5) 1 k 0)] (g8 + 1) 137) 11 [(0, ?v1_0), (1, ?v1_1), (2, ?v1_2), (3, ?v1_3), (4, ?v1_4), (5, ?v1_5), (6, ?v1_6), (7, ?v1_7), (8, ?v1_8), (9, ?v1_9)] 10
                refine chainX rfl rfl (fun xs hx hq => ?_)
                simp only [fa_c, fa_n, and_true] at hq
                refine ⟨_, by simp -implicitDefEqProofs only [go_sem, hq, hsz, hN1, hN2, hN3, ht27, hb, ht34, hx, ht37, hk, hc, hkc, hbn, hbn0]; rfl, by simp -implicitDefEqProofs only [go_sem], by simp -implicitDefEqProofs only [go_sem], by simp -implicitDefEqProofs only [go_sem, hq, hsz, hN1, hN2, hN3, ht27, hb, ht34, hx, ht37, hk, hc, hkc, hbn, hbn0], by simp -implicitDefEqProofs only [go_sem, fa_c, fa_n, and_true]⟩
              refine fa_cons ?_ ?_
              · show ChainAt Try.prog K _ [40, 41, 42, 43, 44, 45, 46, 47, 48, 49] (Fr.of [(1, .box g0 (fnRow f)), (3, .box (g0 + 2) [.own (g0 + 1) 1 ((ndOf N (rootsTo f b ++ (blk.ins.take i).flatMap insRoots)).1.map boolRow)]), (4, .box (g0 + 3) [.own idw 1 ((ndOf N (rootsTo f b ++ (blk.ins.take i).flatMap insRoots)).2.map intRow)]), (5, .clo 100 [.adr (3, []) (g0 + 2) 0 0 0, .adr (4, []) (g0 + 3) 0 0 0]), (6, AV.own (g0 + 5) 1 ((cs.set k AV.undef).map cellRow)), (8, .box g5 (blockRow blk)), (10, .box g6 (insRow x)), (24, .fz (f.blocks.map blockRow)), (25, .int .i64 f.blocks.length), (26, .int .i64 b), (31, .fz (blk.ins.map insRow)), (32, .int .i64 blk.ins.length), (33, .int .i64 i), (50, AV.own g8 1 ((w ++ dceLooks x).map intRow)), (51, AV.adr (6, []) (g0 + 5) 1 k 0)] (g8 + 1) 137) (Fr.of [(1, .box g0 (fnRow f)), (3, .box (g0 + 2) [.own (g0 + 1) 1 ((ndOf N (rootsTo f b ++ (blk.ins.take i).flatMap insRoots)).1.map boolRow)]), (4, .box (g0 + 3) [.own idw 1 ((ndOf N (rootsTo f b ++ (blk.ins.take i).flatMap insRoots)).2.map intRow)]), (5, .clo 100 [.adr (3, []) (g0 + 2) 0 0 0, .adr (4, []) (g0 + 3) 0 0 0]), (6, AV.own (g0 + 5) 1 ((cs.set k (AV.own g8 1 ((w ++ dceLooks x).map intRow))).map cellRow)), (8, .box g5 (blockRow blk)), (10, .box g6 (insRow x)), (24, .fz (f.blocks.map blockRow)), (25, .int .i64 f.blocks.length), (26, .int .i64 b), (31, .fz (blk.ins.map insRow)), (32, .int .i64 blk.ins.length), (33, .int .i64 i)] (g8 + 1) 137) 12 [(0, ?v1_0), (1, ?v1_1), (2, ?v1_2), (3, ?v1_3), (4, ?v1_4), (5, ?v1_5), (6, ?v1_6), (7, ?v1_7), (8, ?v1_8), (9, ?v1_9)] 10
                refine chainX rfl rfl (fun xs hx hq => ?_)
                simp only [fa_c, fa_n, and_true] at hq
                refine ⟨_, by simp -implicitDefEqProofs only [go_sem, hq, hsz, hN1, hN2, hN3, ht27, hb, ht34, hx, ht37, hk, hc, hkc, hbn, hbn0]; rfl, by simp -implicitDefEqProofs only [go_sem], by simp -implicitDefEqProofs only [go_sem], by simp -implicitDefEqProofs only [go_sem, hq, hsz, hN1, hN2, hN3, ht27, hb, ht34, hx, ht37, hk, hc, hkc, hbn, hbn0], by simp -implicitDefEqProofs only [go_sem, fa_c, fa_n, and_true]⟩
              exact fa_nil
            show AW _ _ _ _ _
            refine AW.run [] (by simp -implicitDefEqProofs only [go_sem, hsz, hN1, hN2, hN3, ht27, hb, ht34, hx, ht37, hk, hc, hkc, hbn, hbn0]; rfl) (by trivial) ?_
            exact ⟨hlti, (idw, cs.set k (AV.own g8 1 ((w ++ dceLooks x).map intRow))), by rw [hsp]; exact hcs.set, ⟨by simp -implicitDefEqProofs only [go_sem], by simp -implicitDefEqProofs only [go_sem, hsz, hN1, hN2, hN3, ht27, hb, ht34, hx, ht37, hk, hc, hkc, hbn, hbn0, step_int i (Nat.lt_of_lt_of_le hlti (by omega)), hrts]; try simp [hsz, hN1, hN2, hN3, ht27, hb, ht34, hx, ht37, hk, hc, hkc, hbn, hbn0, step_int i (Nat.lt_of_lt_of_le hlti (by omega)), hrts]⟩⟩
        · refine AW.runs [] (by simp -implicitDefEqProofs only [go_sem, hsz, hN1, hN2, hN3, ht27, hb, ht34, hx, ht37]; rfl) (by trivial) ?_
          refine AW.if (by simp -implicitDefEqProofs only [go_sem, hsz, hN1, hN2, hN3, ht27, hb, ht34, hx, ht37]; rfl) (fun ht52 => ?_) (fun ht52 => ?_)
          · have hrx : insRoots x = dceLooks x := by unfold insRoots; rw [ht37, ht52]; rfl
            have hrts : ndOf N (rootsTo f b ++ (blk.ins.take (i + 1)).flatMap insRoots) = needL (ndOf N (rootsTo f b ++ (blk.ins.take i).flatMap insRoots)) (dceLooks x) := by rw [fm_take _ hx, hrx, ← List.append_assoc, ndOf, ← needL_app]; rfl
            refine AW.region ?_
            refine LW.split 3 [.fz ((dceLooks x).map intRow)] (by simp -implicitDefEqProofs only [go_sem, hsz, hN1, hN2, hN3, ht27, hb, ht34, hx, ht37, ht52]; rfl) (ob1 ((fun101 x).obf)) ?_
            refine LW.callR rfl (by simp -implicitDefEqProofs only [go_sem, callRef]; rfl) (by simp -implicitDefEqProofs only [go_sem, Fr.takeR]; rfl) (fun100 (ndOf N (rootsTo f b ++ (blk.ins.take i).flatMap insRoots)).1 (ndOf N (rootsTo f b ++ (blk.ins.take i).flatMap insRoots)).2 (dceLooks x) (g0 + 1) idw (Nat.le_trans (looks_len hxa) (by decide)) (by rw [ndOf, needL_len]; simp; omega) (by have := needL_sum (rootsTo f b ++ (blk.ins.take i).flatMap insRoots) (List.replicate N false, []); rw [ndOf]; simp [List.count_replicate] at this; omega) (fun v hv => by rw [ndOf, needL_len]; simp; exact hf.looks blk hbm x hxm v hv)) (fun v9 cs9 g9 hR hg => ?_)
            obtain ⟨hc1, idw2, hc2⟩ := hR
            refine ⟨_, _, by simp -implicitDefEqProofs only [go_sem, Fr.giveR, hc1, hc2]; rfl, by simp -implicitDefEqProofs only [go_sem]; rfl, ?_⟩
            refine LW.nil ?_
            show AW _ _ _ _ _
            refine AW.run [] (by simp -implicitDefEqProofs only [go_sem, hsz, hN1, hN2, hN3, ht27, hb, ht34, hx, ht37, ht52]; rfl) (by trivial) ?_
            exact ⟨hlti, (idw2, cs), by rw [take_snoc hx, ← List.append_assoc, byW_n ht37]; exact hcs, ⟨by simp -implicitDefEqProofs only [go_sem], by simp -implicitDefEqProofs only [go_sem, hsz, hN1, hN2, hN3, ht27, hb, ht34, hx, ht37, ht52, step_int i (Nat.lt_of_lt_of_le hlti (by omega)), hrts]; try simp [hsz, hN1, hN2, hN3, ht27, hb, ht34, hx, ht37, ht52, step_int i (Nat.lt_of_lt_of_le hlti (by omega)), hrts]⟩⟩
          · refine AW.skip ?_
            show AW _ _ _ _ _
            refine AW.run [] (by simp -implicitDefEqProofs only [go_sem, hsz, hN1, hN2, hN3, ht27, hb, ht34, hx, ht37, ht52]; rfl) (by trivial) ?_
            have hrx : insRoots x = [] := by unfold insRoots; rw [ht37, ht52]; rfl
            have hrts : rootsTo f b ++ (blk.ins.take (i + 1)).flatMap insRoots = rootsTo f b ++ (blk.ins.take i).flatMap insRoots := by rw [fm_take _ hx, hrx, List.append_nil]
            exact ⟨hlti, (idw, cs), by rw [take_snoc hx, ← List.append_assoc, byW_n ht37]; exact hcs, ⟨by simp -implicitDefEqProofs only [go_sem], by simp -implicitDefEqProofs only [go_sem, hsz, hN1, hN2, hN3, ht27, hb, ht34, hx, ht37, ht52, step_int i (Nat.lt_of_lt_of_le hlti (by omega)), hrts]; try simp [hsz, hN1, hN2, hN3, ht27, hb, ht34, hx, ht37, ht52, step_int i (Nat.lt_of_lt_of_le hlti (by omega)), hrts]⟩⟩
      · have hie := ge_dec ht34
        rw [List.take_of_length_le hie] at hcs
        have hrtb : rootsTo f b ++ (blk.ins.take i).flatMap insRoots = rootsTo f b ++ blk.ins.flatMap insRoots := by rw [List.take_of_length_le hie]
        refine AW.exit ?_
        show AW _ _ _ _ _
        refine AW.runs [] (by simp -implicitDefEqProofs only [go_sem, hsz, hN1, hN2, hN3, ht27, hb, ht34, hrtb]; rfl) (by trivial) ?_
        refine AW.if (by simp -implicitDefEqProofs only [go_sem, hsz, hN1, hN2, hN3, ht27, hb, ht34, hrtb]; rfl) (fun ht64 => ?_) (fun ht64 => ?_)
        · have htr : termRoots blk.term = [blk.term.a] := by unfold termRoots; rw [ht64]; rfl
          have hrts : ndOf N (rootsTo f (b + 1)) = needL (ndOf N (rootsTo f b ++ blk.ins.flatMap insRoots)) [blk.term.a] := by rw [rootsTo, fm_take _ hb, ndOf, ndOf, needL_app, List.append_assoc, blkRoots, htr]; rfl
          refine AW.region ?_
          refine LW.split 5 [] (by simp -implicitDefEqProofs only [go_sem, hsz, hN1, hN2, hN3, ht27, hb, ht34, hrtb, ht64]; rfl) (by trivial) ?_
          refine LW.ice (69, []) (by simp -implicitDefEqProofs only [go_sem]; rfl) ?_
          refine LW.callR rfl (by simp -implicitDefEqProofs only [go_sem, callRef]; rfl) (by simp -implicitDefEqProofs only [go_sem, Fr.takeR]; rfl) (fun100 (ndOf N (rootsTo f b ++ blk.ins.flatMap insRoots)).1 (ndOf N (rootsTo f b ++ blk.ins.flatMap insRoots)).2 [blk.term.a] (g0 + 1) idw (by simp) (by rw [ndOf, needL_len]; simp; omega) (by have := needL_sum (rootsTo f b ++ blk.ins.flatMap insRoots) (List.replicate N false, []); rw [ndOf]; simp [List.count_replicate] at this; omega) (fun v hv => by rw [ndOf, needL_len, List.mem_singleton.1 hv]; simp; exact hf.term blk hbm (by simpa using ht64))) (fun v9 cs9 g9 hR hg => ?_)
          obtain ⟨hc1, idw2, hc2⟩ := hR
          refine ⟨_, _, by simp -implicitDefEqProofs only [go_sem, Fr.giveR, hc1, hc2]; rfl, by simp -implicitDefEqProofs only [go_sem]; rfl, ?_⟩
          refine LW.nil ?_
          show AW _ _ _ _ _
          refine AW.run [] (by simp -implicitDefEqProofs only [go_sem, hsz, hN1, hN2, hN3, ht27, hb, ht34, hrtb, ht64]; rfl) (by trivial) ?_
          exact ⟨hltb, (idw2, cs), by rw [preTo, fm_take _ hb]; exact hcs, ⟨by simp -implicitDefEqProofs only [go_sem], by simp -implicitDefEqProofs only [go_sem, hsz, hN1, hN2, hN3, ht27, hb, ht34, hrtb, ht64, step_int b (Nat.lt_of_lt_of_le hltb (by omega)), hrts]; try simp [hsz, hN1, hN2, hN3, ht27, hb, ht34, hrtb, ht64, step_int b (Nat.lt_of_lt_of_le hltb (by omega)), hrts]⟩⟩
        · refine AW.skip ?_
          show AW _ _ _ _ _
          refine AW.run [] (by simp -implicitDefEqProofs only [go_sem, hsz, hN1, hN2, hN3, ht27, hb, ht34, hrtb, ht64]; rfl) (by trivial) ?_
          have htr : termRoots blk.term = [] := by unfold termRoots; rw [ht64]; rfl
          have hrts : rootsTo f (b + 1) = rootsTo f b ++ blk.ins.flatMap insRoots := by rw [rootsTo, fm_take _ hb, blkRoots, htr, List.append_nil]; rfl
          exact ⟨hltb, (idw, cs), by rw [preTo, fm_take _ hb]; exact hcs, ⟨by simp -implicitDefEqProofs only [go_sem], by simp -implicitDefEqProofs only [go_sem, hsz, hN1, hN2, hN3, ht27, hb, ht34, hrtb, ht64, step_int b (Nat.lt_of_lt_of_le hltb (by omega)), hrts]; try simp [hsz, hN1, hN2, hN3, ht27, hb, ht34, hrtb, ht64, step_int b (Nat.lt_of_lt_of_le hltb (by omega)), hrts]⟩⟩
    · have hbe := ge_dec ht27
      have hpre : preTo f b = allIns f := by unfold preTo allIns; rw [List.take_of_length_le hbe]
      have hrts0 : rootsTo f b = roots f := by unfold rootsTo roots; rw [List.take_of_length_le hbe]
      rw [hpre] at hinvb
      refine AW.exit ?_
      show AW _ _ _ _ _
      have hcf := hinvb.frz
      refine AW.ice (6, []) (by simp -implicitDefEqProofs only [go_sem]; rfl) ?_
      obtain ⟨idw, cs⟩ := x
      have hri := PI.init (N := N) (by_ := byL (allIns f)) (rts := roots f) hrN
      exact AW.label_seq (AW.has (n := 137) [(1, .box g0 (fnRow f)), (3, .box (g0 + 2) [.own (g0 + 1) 1 ((ndOf N (roots f)).1.map boolRow)]), (4, .box (g0 + 3) [.own idw 1 ((ndOf N (roots f)).2.map intRow)]), (5, .clo 100 [.adr (3, []) (g0 + 2) 0 0 0, .adr (4, []) (g0 + 3) 0 0 0]), (6, .fz ((byW N (allIns f)).map intsRow))] ⟨by simp -implicitDefEqProofs only [go_sem], by simp -implicitDefEqProofs only [go_sem, hsz, hN1, hN2, hN3, ht27, hrts0, hcf]; try simp [hsz, hN1, hN2, hN3, ht27, hrts0, hcf]⟩ (fun g9 => hp (idw, (ndOf N (roots f)).1, (ndOf N (roots f)).2) g9 hri))
end Go.Proofs.Ytgoajlgkbcongaa.Vm
end
