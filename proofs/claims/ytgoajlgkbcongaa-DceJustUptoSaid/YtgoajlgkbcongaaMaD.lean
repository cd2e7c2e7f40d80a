/- Contracts of functions, first part: for every argument within the stated bounds the function returns the stated value. -/
import Derived.Test.YtgoajlgkbcongaaMaC
import Derived.Laws.StructEq
section
set_option linter.unusedVariables false
set_option linter.unusedSimpArgs false
set_option maxRecDepth 100000
namespace Go.Proofs.Ytgoajlgkbcongaa.Vm
open Go Go.RowKit Go.Proofs
/-- An instruction that makes nothing. -/
def noDst (op : Int) : Bool := op == 35 || op == 38 || op == 40 || op == 41 || op == 44 || op == 45 || op == 46
def makesOf (x : Ins) : Int := if noDst x.op then -1 else x.dst
theorem fun25 (x : Ins) : Fun Try.prog 25 [.agg (insRow x)] (fun r => r = .int .i64 (makesOf x)) := by
  refine Fun.ok Try.func25 rfl (by rfl) 15 Try.ntmps25 (by rfl) fun hok K g => ?_
  simp only [go_sem]
  refine AW.runs [] (by simp -implicitDefEqProofs only [go_sem]; rfl) (by trivial) ?_
  refine AW.seq (AW.runs [] (by simp -implicitDefEqProofs only [go_sem]; rfl) (by trivial) (AW.block ?_))
  refine AW.seq1 (R := fun f => f.Le (Fr.of [(1, .box g (insRow x)), (2, .int .i64 0), (5, .bool (noDst x.op))] (g + 1) 15)) ?_ fun f hf => AW.weak hf ?_
  · refine AW.runs [] (by simp -implicitDefEqProofs only [go_sem]; rfl) (by trivial) (AW.if (by simp -implicitDefEqProofs only [go_sem]; rfl) (fun h1 => AW.skip (le_of rfl rfl (by simp [go_sem, noDst, h1]))) (fun h1 => ?_))
    refine AW.runs [] (by simp -implicitDefEqProofs only [go_sem]; rfl) (by trivial) (AW.if (by simp -implicitDefEqProofs only [go_sem]; rfl) (fun h2 => AW.skip (le_of rfl rfl (by simp [go_sem, noDst, h1, h2]))) (fun h2 => ?_))
    refine AW.runs [] (by simp -implicitDefEqProofs only [go_sem]; rfl) (by trivial) (AW.if (by simp -implicitDefEqProofs only [go_sem]; rfl) (fun h3 => AW.skip (le_of rfl rfl (by simp [go_sem, noDst, h1, h2, h3]))) (fun h3 => ?_))
    refine AW.runs [] (by simp -implicitDefEqProofs only [go_sem]; rfl) (by trivial) (AW.if (by simp -implicitDefEqProofs only [go_sem]; rfl) (fun h4 => AW.skip (le_of rfl rfl (by simp [go_sem, noDst, h1, h2, h3, h4]))) (fun h4 => ?_))
    refine AW.runs [] (by simp -implicitDefEqProofs only [go_sem]; rfl) (by trivial) (AW.if (by simp -implicitDefEqProofs only [go_sem]; rfl) (fun h5 => AW.skip (le_of rfl rfl (by simp [go_sem, noDst, h1, h2, h3, h4, h5]))) (fun h5 => ?_))
    refine AW.runs [] (by simp -implicitDefEqProofs only [go_sem]; rfl) (by trivial) (AW.if (by simp -implicitDefEqProofs only [go_sem]; rfl) (fun h6 => AW.skip (le_of rfl rfl (by simp [go_sem, noDst, h1, h2, h3, h4, h5, h6]))) (fun h6 => ?_))
    exact AW.run [] (by simp -implicitDefEqProofs only [go_sem]; rfl) (by trivial) (le_of rfl rfl (by simp [go_sem, noDst, h1, h2, h3, h4, h5, h6]))
  · refine AW.if (by simp -implicitDefEqProofs only [go_sem]; rfl) (fun h => ?_) (fun h => AW.skip ?_)
    · exact AW.runs [] (by simp -implicitDefEqProofs only [go_sem]; rfl) (by trivial) (AW.ret ⟨.inl rfl, _, rfl, by simp [go_sem, makesOf, h]⟩)
    · simp only [go_sem]
      exact AW.runs [] (by simp -implicitDefEqProofs only [go_sem]; rfl) (by trivial) (AW.ret ⟨.inl rfl, _, rfl, by simp [go_sem, makesOf, h]⟩)
theorem fun84 (x : Ins) : Fun Try.prog 84 [.agg (insRow x)] (fun r => r = .bool (!noDst x.op)) := by
  refine Fun.ok Try.func84 rfl (by rfl) 13 Try.ntmps84 (by rfl) fun hok K g => ?_
  simp only [go_sem]
  refine AW.runs [] (by simp -implicitDefEqProofs only [go_sem]; rfl) (by trivial) ?_
  refine AW.seq (AW.runs [] (by simp -implicitDefEqProofs only [go_sem]; rfl) (by trivial) (AW.block ?_))
  refine AW.seq1 (R := fun f => f.Le (Fr.of [(5, .bool (noDst x.op))] (g + 1) 13)) ?_ fun f hf => AW.weak hf ?_
  · refine AW.runs [] (by simp -implicitDefEqProofs only [go_sem]; rfl) (by trivial) (AW.if (by simp -implicitDefEqProofs only [go_sem]; rfl) (fun h1 => AW.skip (le_of rfl rfl (by simp [go_sem, noDst, h1]))) (fun h1 => ?_))
    refine AW.runs [] (by simp -implicitDefEqProofs only [go_sem]; rfl) (by trivial) (AW.if (by simp -implicitDefEqProofs only [go_sem]; rfl) (fun h2 => AW.skip (le_of rfl rfl (by simp [go_sem, noDst, h1, h2]))) (fun h2 => ?_))
    refine AW.runs [] (by simp -implicitDefEqProofs only [go_sem]; rfl) (by trivial) (AW.if (by simp -implicitDefEqProofs only [go_sem]; rfl) (fun h3 => AW.skip (le_of rfl rfl (by simp [go_sem, noDst, h1, h2, h3]))) (fun h3 => ?_))
    refine AW.runs [] (by simp -implicitDefEqProofs only [go_sem]; rfl) (by trivial) (AW.if (by simp -implicitDefEqProofs only [go_sem]; rfl) (fun h4 => AW.skip (le_of rfl rfl (by simp [go_sem, noDst, h1, h2, h3, h4]))) (fun h4 => ?_))
    refine AW.runs [] (by simp -implicitDefEqProofs only [go_sem]; rfl) (by trivial) (AW.if (by simp -implicitDefEqProofs only [go_sem]; rfl) (fun h5 => AW.skip (le_of rfl rfl (by simp [go_sem, noDst, h1, h2, h3, h4, h5]))) (fun h5 => ?_))
    refine AW.runs [] (by simp -implicitDefEqProofs only [go_sem]; rfl) (by trivial) (AW.if (by simp -implicitDefEqProofs only [go_sem]; rfl) (fun h6 => AW.skip (le_of rfl rfl (by simp [go_sem, noDst, h1, h2, h3, h4, h5, h6]))) (fun h6 => ?_))
    exact AW.run [] (by simp -implicitDefEqProofs only [go_sem]; rfl) (by trivial) (le_of rfl rfl (by simp [go_sem, noDst, h1, h2, h3, h4, h5, h6]))
  · refine AW.if (by simp -implicitDefEqProofs only [go_sem]; rfl) (fun h => ?_) (fun h => AW.skip ?_)
    · exact AW.runs [] (by simp -implicitDefEqProofs only [go_sem]; rfl) (by trivial) (AW.ret ⟨.inl rfl, _, rfl, by simp [go_sem, h]⟩)
    · simp only [go_sem]
      exact AW.runs [] (by simp -implicitDefEqProofs only [go_sem]; rfl) (by trivial) (AW.ret ⟨.inl rfl, _, rfl, by simp [go_sem, h]⟩)
def scalarTy (t : Typ) : Bool := t.kind == 1 || t.kind == 2
theorem fun122 (t : Typ) : Fun Try.prog 122 [.agg (typRow t)] (fun r => r = .bool (scalarTy t)) := by
  refine Fun.ok Try.func122 rfl (by rfl) 11 Try.ntmps122 (by rfl) fun hok K g => ?_
  simp only [go_sem]
  refine AW.runs [] (by simp -implicitDefEqProofs only [go_sem]; rfl) (by trivial) ?_
  cases h : (t.kind == 1)
  · exact AW.runs [] (by simp -implicitDefEqProofs only [go_sem, h]; rfl) (by trivial) (AW.ret ⟨.inl rfl, _, rfl, by simp [go_sem, scalarTy, h]⟩)
  · exact AW.runs [] (by simp -implicitDefEqProofs only [go_sem, h]; rfl) (by trivial) (AW.ret ⟨.inl rfl, _, rfl, by simp [go_sem, scalarTy, h]⟩)
def nextOf (t : Term) : List Int := if t.kind == 1 then [t.to] else if t.kind == 2 then [t.to, t.els] else []
theorem fun71 (t : Term) : Fun Try.prog 71 [.agg (termRow t)] (fun r => r.frz = .fz ((nextOf t).map intRow)) := by
  refine Fun.ok Try.func71 rfl (by rfl) 17 Try.ntmps71 (by rfl) fun hok K g => ?_
  simp only [go_sem]
  refine AW.runs [] (by simp -implicitDefEqProofs only [go_sem]; rfl) (by trivial) ?_
  refine AW.seq (AW.runs [] (by simp -implicitDefEqProofs only [go_sem]; rfl) (by trivial) (AW.block ?_))
  refine AW.runs [] (by simp -implicitDefEqProofs only [go_sem]; rfl) (by trivial) (AW.if (by simp -implicitDefEqProofs only [go_sem]; rfl) (fun h1 => ?_) (fun h1 => ?_))
  · exact AW.runs [] (by simp -implicitDefEqProofs only [go_sem]; rfl) (by trivial) (AW.ret ⟨.inl rfl, _, rfl, by simp [go_sem, nextOf, h1]⟩)
  · refine AW.runs [] (by simp -implicitDefEqProofs only [go_sem]; rfl) (by trivial) (AW.if (by simp -implicitDefEqProofs only [go_sem]; rfl) (fun h2 => ?_) (fun h2 => ?_))
    · exact AW.runs [] (by simp -implicitDefEqProofs only [go_sem]; rfl) (by trivial) (AW.ret ⟨.inl rfl, _, rfl, by simp [go_sem, nextOf, h1, h2]⟩)
    · refine AW.skip ?_
      simp only [go_sem]
      exact AW.runs [] (by simp -implicitDefEqProofs only [go_sem]; rfl) (by trivial) (AW.ret ⟨.inl rfl, _, rfl, by simp [go_sem, nextOf, h1, h2]⟩)
theorem idx_at : ∀ (l : List Int) (y : Int) (i : Nat), l[i]? = some y → y ∉ l.take i → l.idxOf y = i
  | [], y, i, h, _ => by simp at h
  | x :: l, y, 0, h, _ => by simp at h; simp [h]
  | x :: l, y, i + 1, h, hn => by
    simp only [List.getElem?_cons_succ] at h
    simp only [List.take_succ_cons, List.mem_cons, not_or] at hn
    have hb : (x == y) = false := by simpa using Ne.symm hn.1
    rw [List.idxOf_cons, hb, idx_at l y i h hn.2]
    rfl
theorem take_mem {α : Type} {l : List α} {i : Nat} {x y : α} (hx : l[i]? = some x) (hy : y ∉ l.take i) (hne : y ≠ x) : y ∉ l.take (i + 1) := by
  rw [List.take_add_one, hx]
  simp only [Option.toList_some, List.mem_append, List.mem_singleton, not_or]
  exact ⟨hy, hne⟩
def indexOf (l : List Int) (y : Int) : Int := if y ∈ l then (l.idxOf y : Int) else -1
theorem fun145 (l : List Int) (y : Int) : Fun Try.prog 145 [.fz (l.map intRow), .int .i64 y] (fun r => r = .int .i64 (indexOf l y)) := by
  refine Fun.ok Try.func145 rfl (by rfl) 19 Try.ntmps145 (by rfl) fun hok K g => ?_
  have hlen : l.length ≤ 9223372036854775807 := by simpa using Okv.len (rows := l.map intRow) (hok _ (by simp))
  simp only [go_sem]
  refine AW.runs [] (by simp -implicitDefEqProofs only [go_sem]; rfl) (by trivial) ?_
  refine AW.seq (AW.runs [] (by simp -implicitDefEqProofs only [go_sem]; rfl) (by trivial) ?_)
  refine AW.block (AW.for (X := Unit) l.length (fun i _ => [(0, .fz (l.map intRow)), (1, .int .i64 y), (7, .int .i64 l.length), (8, .int .i64 i)]) (fun i _ => y ∉ l.take i) ⟨(), g, by simp, le_of rfl rfl (by simp [go_sem])⟩ fun i _ g hi hy => ?_)
  refine AW.runs [] (by simp -implicitDefEqProofs only [go_sem]; rfl) (by trivial) ?_
  refine AW.seq (AW.if (by simp -implicitDefEqProofs only [go_sem]; rfl) (fun hc => AW.skip ?_) (fun hc => AW.exit ?_))
  · have hlt : i < l.length := by have := of_decide_eq_true hc; omega
    obtain ⟨x, hx⟩ : ∃ x, l[i]? = some x := ⟨_, List.getElem?_eq_getElem hlt⟩
    refine AW.seq (AW.block (AW.runs [] (by simp -implicitDefEqProofs only [go_sem]; rfl) (by trivial) (AW.runs [] (by simp -implicitDefEqProofs only [go_sem, hx]; rfl) (by trivial) ?_)))
    refine AW.if (by simp -implicitDefEqProofs only [go_sem]; rfl) (fun hc => ?_) (fun hc => AW.skip ?_)
    · have he : y = x := by simpa using hc
      subst he
      have : y ∈ l := List.mem_of_getElem? hx
      exact AW.runs [] (by simp -implicitDefEqProofs only [go_sem]; rfl) (by trivial) (AW.ret ⟨.inl rfl, _, rfl, by simp [go_sem, indexOf, this, idx_at l y i hx hy]⟩)
    · have hne : y ≠ x := by simpa using hc
      refine AW.run [] (by simp -implicitDefEqProofs only [go_sem]; rfl) (by trivial) ?_
      exact ⟨hlt, (), g, take_mem hx hy hne, le_of rfl rfl (by simp [go_sem, wrap_succ i l.length hlt hlen])⟩
  · have : ¬ y ∈ l := by
      have e : l.take i = l := List.take_of_length_le (by have := of_decide_eq_false hc; omega)
      rwa [e] at hy
    exact AW.runs [] (by simp -implicitDefEqProofs only [go_sem]; rfl) (by trivial) (AW.ret ⟨.inl rfl, _, rfl, by simp [go_sem, indexOf, this]⟩)
theorem fun125 (l : List Int) (y : Int) : Fun Try.prog 125 [.fz (l.map intRow), .int .i64 y] (fun r => r = .bool (decide (y ∈ l))) := by
  refine Fun.ok Try.func125 rfl (by rfl) 9 Try.ntmps125 (by rfl) fun hok K g => ?_
  simp only [go_sem]
  refine AW.runs [] (by simp -implicitDefEqProofs only [go_sem]; rfl) (by trivial) ?_
  refine AW.runs [.int .i64 (indexOf l y)] (by simp -implicitDefEqProofs only [go_sem]; rfl) (ob1 (fun145 l y).obi) (AW.ret ⟨.inl rfl, _, rfl, ?_⟩)
  by_cases h : y ∈ l <;> simp [go_sem, indexOf, h]
theorem bytes_inj {a b : ByteArray} (h : a.toList = b.toList) : a = b := by
  rw [ByteArray.toList_eq, ByteArray.toList_eq] at h
  exact ByteArray.ext (Array.toList_inj.1 h)
theorem eq_of_take {α : Type} {a b : List α} (hl : a.length = b.length) (h : a.take a.length = b.take a.length) : a = b := by
  rw [List.take_of_length_le (Nat.le_refl _), hl, List.take_of_length_le (Nat.le_refl _)] at h
  exact h
theorem take_eq {α : Type} {a b : List α} {i : Nat} {x : α} (h : a.take i = b.take i) (hx : a[i]? = some x) (hy : b[i]? = some x) : a.take (i + 1) = b.take (i + 1) := by
  rw [List.take_add_one, List.take_add_one, h, hx, hy]
theorem fun68 (a b : List Int) : Fun Try.prog 68 [.fz (a.map intRow), .fz (b.map intRow)] (fun r => r = .bool (decide (a = b))) := by
  refine Fun.ok Try.func68 rfl (by rfl) 26 Try.ntmps68 (by rfl) fun hok K g => ?_
  have hlen : a.length ≤ 9223372036854775807 := by simpa using Okv.len (rows := a.map intRow) (hok _ (by simp))
  simp only [go_sem]
  refine AW.runs [] (by simp -implicitDefEqProofs only [go_sem]; rfl) (by trivial) ?_
  refine AW.seq (AW.runs [] (by simp -implicitDefEqProofs only [go_sem]; rfl) (by trivial) (AW.if (by simp -implicitDefEqProofs only [go_sem]; rfl) (fun h1 => ?_) (fun h1 => AW.skip ?_)))
  · have : a ≠ b := fun e => by subst e; simp at h1
    exact AW.runs [] (by simp -implicitDefEqProofs only [go_sem]; rfl) (by trivial) (AW.ret ⟨.inl rfl, _, rfl, by simp [go_sem, this]⟩)
  simp only [go_sem]
  have hl : a.length = b.length := by have : (a.length : Int) = b.length := by simpa using h1
                                      omega
  refine AW.seq (AW.runs [] (by simp -implicitDefEqProofs only [go_sem]; rfl) (by trivial) ?_)
  refine AW.block (AW.for (X := Unit) a.length (fun i _ => [(0, .fz (a.map intRow)), (1, .fz (b.map intRow)), (5, .int .i64 i)]) (fun i _ => a.take i = b.take i) ⟨(), g, by simp, le_of rfl rfl (by simp [go_sem])⟩ fun i _ g hi hy => ?_)
  refine AW.seq (AW.runs [] (by simp -implicitDefEqProofs only [go_sem]; rfl) (by trivial) ?_)
  refine AW.if (by simp -implicitDefEqProofs only [go_sem]; rfl) (fun hc => AW.skip ?_) (fun hc => AW.exit ?_)
  · have hlt : i < a.length := by have := of_decide_eq_true hc; omega
    obtain ⟨x, hx⟩ : ∃ x, a[i]? = some x := ⟨_, List.getElem?_eq_getElem hlt⟩
    obtain ⟨y, hyy⟩ : ∃ y, b[i]? = some y := ⟨_, List.getElem?_eq_getElem (by omega)⟩
    refine AW.seq (AW.block (AW.seq (AW.to [(0, .fz (a.map intRow)), (1, .fz (b.map intRow)), (5, .int .i64 i)] rfl rfl (by simp [go_sem]) ?_)))
    refine AW.drw 9 [[], [], [0, 1], [0, 1, 2], [], [], [4, 5], [4, 5, 6], [0, 1, 2, 3, 4, 5, 6, 7]] [17, 18, 19, 20, 21, 22, 23, 24, 25] [] [] f_mix (by decide) (by rfl) (by rfl) rfl rfl (by simp -implicitDefEqProofs only [go_sem, hx, hyy]; rfl) (by trivial) (by simp -implicitDefEqProofs only [go_sem]; rfl) (by trivial) ?_
    refine AW.if (by simp -implicitDefEqProofs only [go_sem]; rfl) (fun hc => ?_) (fun hc => AW.skip ?_)
    · have : a ≠ b := fun e => by subst e; rw [hx] at hyy; cases hyy; simp at hc
      exact AW.runs [] (by simp -implicitDefEqProofs only [go_sem]; rfl) (by trivial) (AW.ret ⟨.inl rfl, _, rfl, by simp [go_sem, this]⟩)
    · have : x = y := by simpa using hc
      subst this
      refine AW.run [] (by simp -implicitDefEqProofs only [go_sem]; rfl) (by trivial) ?_
      exact ⟨hlt, (), g, take_eq hy hx hyy, le_of rfl rfl (by simp [go_sem, wrap_succ i a.length hlt hlen])⟩
  · have : a = b := eq_of_take hl (by have := of_decide_eq_false hc; rwa [show i = a.length by omega] at hy)
    exact AW.runs [] (by simp -implicitDefEqProofs only [go_sem]; rfl) (by trivial) (AW.ret ⟨.inl rfl, _, rfl, by simp [go_sem, this]⟩)
theorem fun80 (a b : List Int) : Fun Try.prog 80 [.fz (a.map intRow), .fz (b.map intRow)] (fun r => r = .bool (decide (a = b))) := by
  refine Fun.ok Try.func80 rfl (by rfl) 26 Try.ntmps80 (by rfl) fun hok K g => ?_
  have hlen : a.length ≤ 9223372036854775807 := by simpa using Okv.len (rows := a.map intRow) (hok _ (by simp))
  simp only [go_sem]
  refine AW.runs [] (by simp -implicitDefEqProofs only [go_sem]; rfl) (by trivial) ?_
  refine AW.seq (AW.runs [] (by simp -implicitDefEqProofs only [go_sem]; rfl) (by trivial) (AW.if (by simp -implicitDefEqProofs only [go_sem]; rfl) (fun h1 => ?_) (fun h1 => AW.skip ?_)))
  · have : a ≠ b := fun e => by subst e; simp at h1
    exact AW.runs [] (by simp -implicitDefEqProofs only [go_sem]; rfl) (by trivial) (AW.ret ⟨.inl rfl, _, rfl, by simp [go_sem, this]⟩)
  simp only [go_sem]
  have hl : a.length = b.length := by have : (a.length : Int) = b.length := by simpa using h1
                                      omega
  refine AW.seq (AW.runs [] (by simp -implicitDefEqProofs only [go_sem]; rfl) (by trivial) ?_)
  refine AW.block (AW.for (X := Unit) a.length (fun i _ => [(0, .fz (a.map intRow)), (1, .fz (b.map intRow)), (5, .int .i64 i)]) (fun i _ => a.take i = b.take i) ⟨(), g, by simp, le_of rfl rfl (by simp [go_sem])⟩ fun i _ g hi hy => ?_)
  refine AW.seq (AW.runs [] (by simp -implicitDefEqProofs only [go_sem]; rfl) (by trivial) ?_)
  refine AW.if (by simp -implicitDefEqProofs only [go_sem]; rfl) (fun hc => AW.skip ?_) (fun hc => AW.exit ?_)
  · have hlt : i < a.length := by have := of_decide_eq_true hc; omega
    obtain ⟨x, hx⟩ : ∃ x, a[i]? = some x := ⟨_, List.getElem?_eq_getElem hlt⟩
    obtain ⟨y, hyy⟩ : ∃ y, b[i]? = some y := ⟨_, List.getElem?_eq_getElem (by omega)⟩
    refine AW.seq (AW.block (AW.seq (AW.to [(0, .fz (a.map intRow)), (1, .fz (b.map intRow)), (5, .int .i64 i)] rfl rfl (by simp [go_sem]) ?_)))
    refine AW.drw 9 [[], [], [0, 1], [0, 1, 2], [], [], [4, 5], [4, 5, 6], [0, 1, 2, 3, 4, 5, 6, 7]] [17, 18, 19, 20, 21, 22, 23, 24, 25] [] [] f_mix (by decide) (by rfl) (by rfl) rfl rfl (by simp -implicitDefEqProofs only [go_sem, hx, hyy]; rfl) (by trivial) (by simp -implicitDefEqProofs only [go_sem]; rfl) (by trivial) ?_
    refine AW.if (by simp -implicitDefEqProofs only [go_sem]; rfl) (fun hc => ?_) (fun hc => AW.skip ?_)
    · have : a ≠ b := fun e => by subst e; rw [hx] at hyy; cases hyy; simp at hc
      exact AW.runs [] (by simp -implicitDefEqProofs only [go_sem]; rfl) (by trivial) (AW.ret ⟨.inl rfl, _, rfl, by simp [go_sem, this]⟩)
    · have : x = y := by simpa using hc
      subst this
      refine AW.run [] (by simp -implicitDefEqProofs only [go_sem]; rfl) (by trivial) ?_
      exact ⟨hlt, (), g, take_eq hy hx hyy, le_of rfl rfl (by simp [go_sem, wrap_succ i a.length hlt hlen])⟩
  · have : a = b := eq_of_take hl (by have := of_decide_eq_false hc; rwa [show i = a.length by omega] at hy)
    exact AW.runs [] (by simp -implicitDefEqProofs only [go_sem]; rfl) (by trivial) (AW.ret ⟨.inl rfl, _, rfl, by simp [go_sem, this]⟩)
theorem fun81 (a b : List ByteArray) : Fun Try.prog 81 [.fz (a.map strRow), .fz (b.map strRow)] (fun r => r = .bool (decide (a = b))) := by
  refine Fun.ok Try.func81 rfl (by rfl) 26 Try.ntmps81 (by rfl) fun hok K g => ?_
  have hlen : a.length ≤ 9223372036854775807 := by simpa using Okv.len (rows := a.map strRow) (hok _ (by simp))
  simp only [go_sem]
  refine AW.runs [] (by simp -implicitDefEqProofs only [go_sem]; rfl) (by trivial) ?_
  refine AW.seq (AW.runs [] (by simp -implicitDefEqProofs only [go_sem]; rfl) (by trivial) (AW.if (by simp -implicitDefEqProofs only [go_sem]; rfl) (fun h1 => ?_) (fun h1 => AW.skip ?_)))
  · have : a ≠ b := fun e => by subst e; simp at h1
    exact AW.runs [] (by simp -implicitDefEqProofs only [go_sem]; rfl) (by trivial) (AW.ret ⟨.inl rfl, _, rfl, by simp [go_sem, this]⟩)
  simp only [go_sem]
  have hl : a.length = b.length := by have : (a.length : Int) = b.length := by simpa using h1
                                      omega
  refine AW.seq (AW.runs [] (by simp -implicitDefEqProofs only [go_sem]; rfl) (by trivial) ?_)
  refine AW.block (AW.for (X := Unit) a.length (fun i _ => [(0, .fz (a.map strRow)), (1, .fz (b.map strRow)), (5, .int .i64 i)]) (fun i _ => a.take i = b.take i) ⟨(), g, by simp, le_of rfl rfl (by simp [go_sem])⟩ fun i _ g hi hy => ?_)
  refine AW.seq (AW.runs [] (by simp -implicitDefEqProofs only [go_sem]; rfl) (by trivial) ?_)
  refine AW.if (by simp -implicitDefEqProofs only [go_sem]; rfl) (fun hc => AW.skip ?_) (fun hc => AW.exit ?_)
  · have hlt : i < a.length := by have := of_decide_eq_true hc; omega
    obtain ⟨x, hx⟩ : ∃ x, a[i]? = some x := ⟨_, List.getElem?_eq_getElem hlt⟩
    obtain ⟨y, hyy⟩ : ∃ y, b[i]? = some y := ⟨_, List.getElem?_eq_getElem (by omega)⟩
    refine AW.seq (AW.block (AW.seq (AW.to [(0, .fz (a.map strRow)), (1, .fz (b.map strRow)), (5, .int .i64 i)] rfl rfl (by simp [go_sem]) ?_)))
    refine AW.drw 9 [[], [], [0, 1], [0, 1, 2], [], [], [4, 5], [4, 5, 6], [0, 1, 2, 3, 4, 5, 6, 7]] [17, 18, 19, 20, 21, 22, 23, 24, 25] [] [] f_mix (by decide) (by rfl) (by rfl) rfl rfl (by simp -implicitDefEqProofs only [go_sem, hx, hyy]; rfl) (by trivial) (by simp -implicitDefEqProofs only [go_sem]; rfl) (by trivial) ?_
    refine AW.if (by simp -implicitDefEqProofs only [go_sem]; rfl) (fun hc => ?_) (fun hc => AW.skip ?_)
    · have : a ≠ b := fun e => by subst e; rw [hx] at hyy; cases hyy; simp at hc
      exact AW.runs [] (by simp -implicitDefEqProofs only [go_sem]; rfl) (by trivial) (AW.ret ⟨.inl rfl, _, rfl, by simp [go_sem, this]⟩)
    · have : x = y := bytes_inj (by simpa using hc)
      subst this
      refine AW.run [] (by simp -implicitDefEqProofs only [go_sem]; rfl) (by trivial) ?_
      exact ⟨hlt, (), g, take_eq hy hx hyy, le_of rfl rfl (by simp [go_sem, wrap_succ i a.length hlt hlen])⟩
  · have : a = b := eq_of_take hl (by have := of_decide_eq_false hc; rwa [show i = a.length by omega] at hy)
    exact AW.runs [] (by simp -implicitDefEqProofs only [go_sem]; rfl) (by trivial) (AW.ret ⟨.inl rfl, _, rfl, by simp [go_sem, this]⟩)
def sameIns (x y : Ins) : Bool := x.op == y.op && x.dst == y.dst && x.a == y.a && x.b == y.b && x.var == y.var && x.num == y.num && decide (x.args = y.args)
theorem fun37 (x y : Ins) : Fun Try.prog 37 [.agg (insRow x), .agg (insRow y)] (fun r => r = .bool (sameIns x y)) := by
  refine Fun.ok Try.func37 rfl (by rfl) 52 Try.ntmps37 (by rfl) fun hok K g => ?_
  simp only [go_sem]
  refine AW.runs [] (by simp -implicitDefEqProofs only [go_sem]; rfl) (by trivial) ?_
  cases h1 : (x.op == y.op)
  · exact AW.runs [] (by simp -implicitDefEqProofs only [go_sem, h1]; rfl) (by trivial) (AW.ret ⟨.inl rfl, _, rfl, by simp [go_sem, sameIns, h1]⟩)
  cases h2 : (x.dst == y.dst)
  · exact AW.runs [] (by simp -implicitDefEqProofs only [go_sem, h1, h2]; rfl) (by trivial) (AW.ret ⟨.inl rfl, _, rfl, by simp [go_sem, sameIns, h1, h2]⟩)
  cases h3 : (x.a == y.a)
  · exact AW.runs [] (by simp -implicitDefEqProofs only [go_sem, h1, h2, h3]; rfl) (by trivial) (AW.ret ⟨.inl rfl, _, rfl, by simp [go_sem, sameIns, h1, h2, h3]⟩)
  cases h4 : (x.b == y.b)
  · exact AW.runs [] (by simp -implicitDefEqProofs only [go_sem, h1, h2, h3, h4]; rfl) (by trivial) (AW.ret ⟨.inl rfl, _, rfl, by simp [go_sem, sameIns, h1, h2, h3, h4]⟩)
  cases h5 : (x.var == y.var)
  · exact AW.runs [] (by simp -implicitDefEqProofs only [go_sem, h1, h2, h3, h4, h5]; rfl) (by trivial) (AW.ret ⟨.inl rfl, _, rfl, by simp [go_sem, sameIns, h1, h2, h3, h4, h5]⟩)
  cases h6 : (x.num == y.num)
  · exact AW.runs [] (by simp -implicitDefEqProofs only [go_sem, h1, h2, h3, h4, h5, h6]; rfl) (by trivial) (AW.ret ⟨.inl rfl, _, rfl, by simp [go_sem, sameIns, h1, h2, h3, h4, h5, h6]⟩)
  · exact AW.runs [.bool (decide (x.args = y.args))] (by simp -implicitDefEqProofs only [go_sem, h1, h2, h3, h4, h5, h6]; rfl) (ob1 (fun68 x.args y.args).obb) (AW.ret ⟨.inl rfl, _, rfl, by simp [go_sem, sameIns, h1, h2, h3, h4, h5, h6]⟩)
end Go.Proofs.Ytgoajlgkbcongaa.Vm
end
section
set_option linter.unusedVariables false
set_option linter.unusedSimpArgs false
set_option maxRecDepth 100000
namespace Go.Proofs.Ytgoajlgkbcongaa.Vm
open Go Go.RowKit Go.Proofs
/-- What stands at a place, if there is such a place. -/
def atI {α : Type} (l : List α) (k : Int) : Option α := if 0 ≤ k then l[k.toNat]? else none
theorem atI_nat {α : Type} (l : List α) (n : Nat) : atI l (n : Int) = l[n]? := by simp [atI]
theorem atI_neg {α : Type} (l : List α) (k : Int) (h : decide (k ≥ 0) = false) : atI l k = none := by
  have := of_decide_eq_false h
  unfold atI
  rw [if_neg (by omega)]
def scalarAt (f : Fn) (k : Int) : Bool := match atI f.vars k with
  | some v => scalarTy v.type && v.words == 1
  | none => false
def arrayAt (f : Fn) (k : Int) : Bool := match atI f.vars k with
  | some v => v.type.kind == 3 && decide (v.words ≥ 1) && decide (v.words ≤ 16)
  | none => false
def fieldsAt (f : Fn) (k : Int) : Bool := match atI f.vars k with
  | some v => v.type.kind == 4 && decide (v.words ≥ 1) && decide (v.words ≤ 16)
  | none => false
theorem nn (n : Nat) : decide ((n : Int) ≥ 0) = true := by simp
theorem fun103 (f : Fn) (k : Int) : Fun Try.prog 103 [.agg (fnRow f), .int .i64 k] (fun r => r = .bool (scalarAt f k)) := by
  refine Fun.ok Try.func103 rfl (by rfl) 32 Try.ntmps103 (by rfl) fun hok K g => ?_
  simp only [go_sem]
  refine AW.runs [] (by simp -implicitDefEqProofs only [go_sem]; rfl) (by trivial) ?_
  cases hk : decide (k ≥ 0)
  · exact AW.runs [] (by simp -implicitDefEqProofs only [go_sem, hk]; rfl) (by trivial) (AW.ret ⟨.inl rfl, _, rfl, by simp [go_sem, scalarAt, atI_neg _ _ hk]⟩)
  obtain ⟨n, rfl⟩ := Int.eq_ofNat_of_zero_le (of_decide_eq_true hk)
  cases hn : decide ((n : Int) < (f.vars.length : Int))
  · have : f.vars[n]? = none := List.getElem?_eq_none (by have := of_decide_eq_false hn; omega)
    exact AW.runs [] (by simp -implicitDefEqProofs only [go_sem, nn, hn]; rfl) (by trivial) (AW.ret ⟨.inl rfl, _, rfl, by simp [go_sem, scalarAt, atI_nat, this]⟩)
  obtain ⟨v, hv⟩ : ∃ v, f.vars[n]? = some v := ⟨_, List.getElem?_eq_getElem (by have := of_decide_eq_true hn; omega)⟩
  cases h1 : scalarTy v.type
  · exact AW.runs [.bool (scalarTy v.type)] (by simp -implicitDefEqProofs only [go_sem, nn, hn, hv, h1]; rfl) (ob1 (by rw [← h1]; exact (fun122 v.type).obb)) (AW.ret ⟨.inl rfl, _, rfl, by simp [go_sem, scalarAt, atI_nat, hv, h1]⟩)
  · exact AW.runs [.bool (scalarTy v.type)] (by simp -implicitDefEqProofs only [go_sem, nn, hn, hv, h1]; rfl) (ob1 (by rw [← h1]; exact (fun122 v.type).obb)) (AW.ret ⟨.inl rfl, _, rfl, by simp [go_sem, scalarAt, atI_nat, hv, h1]⟩)
theorem fun104 (f : Fn) (k : Int) : Fun Try.prog 104 [.agg (fnRow f), .int .i64 k] (fun r => r = .bool (arrayAt f k)) := by
  refine Fun.ok Try.func104 rfl (by rfl) 42 Try.ntmps104 (by rfl) fun hok K g => ?_
  simp only [go_sem]
  refine AW.runs [] (by simp -implicitDefEqProofs only [go_sem]; rfl) (by trivial) ?_
  cases hk : decide (k ≥ 0)
  · exact AW.runs [] (by simp -implicitDefEqProofs only [go_sem, hk]; rfl) (by trivial) (AW.ret ⟨.inl rfl, _, rfl, by simp [go_sem, arrayAt, atI_neg _ _ hk]⟩)
  obtain ⟨n, rfl⟩ := Int.eq_ofNat_of_zero_le (of_decide_eq_true hk)
  cases hn : decide ((n : Int) < (f.vars.length : Int))
  · have : f.vars[n]? = none := List.getElem?_eq_none (by have := of_decide_eq_false hn; omega)
    exact AW.runs [] (by simp -implicitDefEqProofs only [go_sem, nn, hn]; rfl) (by trivial) (AW.ret ⟨.inl rfl, _, rfl, by simp [go_sem, arrayAt, atI_nat, this]⟩)
  obtain ⟨v, hv⟩ : ∃ v, f.vars[n]? = some v := ⟨_, List.getElem?_eq_getElem (by have := of_decide_eq_true hn; omega)⟩
  cases h1 : (v.type.kind == 3)
  · exact AW.runs [] (by simp -implicitDefEqProofs only [go_sem, nn, hn, hv, h1]; rfl) (by trivial) (AW.ret ⟨.inl rfl, _, rfl, by simp [go_sem, arrayAt, atI_nat, hv, h1]⟩)
  cases h2 : decide (v.words ≥ 1)
  · exact AW.runs [] (by simp -implicitDefEqProofs only [go_sem, nn, hn, hv, h1, h2]; rfl) (by trivial) (AW.ret ⟨.inl rfl, _, rfl, by simp only [go_sem, arrayAt, atI_nat, hv, h1, h2]⟩)
  · exact AW.runs [] (by simp -implicitDefEqProofs only [go_sem, nn, hn, hv, h1, h2]; rfl) (by trivial) (AW.ret ⟨.inl rfl, _, rfl, by simp only [go_sem, arrayAt, atI_nat, hv, h1, h2]⟩)
theorem fun105 (f : Fn) (k : Int) : Fun Try.prog 105 [.agg (fnRow f), .int .i64 k] (fun r => r = .bool (fieldsAt f k)) := by
  refine Fun.ok Try.func105 rfl (by rfl) 42 Try.ntmps105 (by rfl) fun hok K g => ?_
  simp only [go_sem]
  refine AW.runs [] (by simp -implicitDefEqProofs only [go_sem]; rfl) (by trivial) ?_
  cases hk : decide (k ≥ 0)
  · exact AW.runs [] (by simp -implicitDefEqProofs only [go_sem, hk]; rfl) (by trivial) (AW.ret ⟨.inl rfl, _, rfl, by simp [go_sem, fieldsAt, atI_neg _ _ hk]⟩)
  obtain ⟨n, rfl⟩ := Int.eq_ofNat_of_zero_le (of_decide_eq_true hk)
  cases hn : decide ((n : Int) < (f.vars.length : Int))
  · have : f.vars[n]? = none := List.getElem?_eq_none (by have := of_decide_eq_false hn; omega)
    exact AW.runs [] (by simp -implicitDefEqProofs only [go_sem, nn, hn]; rfl) (by trivial) (AW.ret ⟨.inl rfl, _, rfl, by simp [go_sem, fieldsAt, atI_nat, this]⟩)
  obtain ⟨v, hv⟩ : ∃ v, f.vars[n]? = some v := ⟨_, List.getElem?_eq_getElem (by have := of_decide_eq_true hn; omega)⟩
  cases h1 : (v.type.kind == 4)
  · exact AW.runs [] (by simp -implicitDefEqProofs only [go_sem, nn, hn, hv, h1]; rfl) (by trivial) (AW.ret ⟨.inl rfl, _, rfl, by simp [go_sem, fieldsAt, atI_nat, hv, h1]⟩)
  cases h2 : decide (v.words ≥ 1)
  · exact AW.runs [] (by simp -implicitDefEqProofs only [go_sem, nn, hn, hv, h1, h2]; rfl) (by trivial) (AW.ret ⟨.inl rfl, _, rfl, by simp only [go_sem, fieldsAt, atI_nat, hv, h1, h2]⟩)
  · exact AW.runs [] (by simp -implicitDefEqProofs only [go_sem, nn, hn, hv, h1, h2]; rfl) (by trivial) (AW.ret ⟨.inl rfl, _, rfl, by simp only [go_sem, fieldsAt, atI_nat, hv, h1, h2]⟩)
end Go.Proofs.Ytgoajlgkbcongaa.Vm
end
section
set_option linter.unusedVariables false
set_option linter.unusedSimpArgs false
set_option maxRecDepth 100000
namespace Go.Proofs.Ytgoajlgkbcongaa.Vm
open Go Go.RowKit Go.Proofs
def one62 (op : Int) : Bool := op == 14 || op == 15 || op == 36 || op == 35 || op == 37 || op == 40 || op == 44
def all62 (op : Int) : Bool := op == 42 || op == 47
/-- What an instruction looks at. -/
def usesOf (x : Ins) : List Int :=
  if one62 x.op then [x.a] else if x.op == 38 then [x.a, x.b] else if all62 x.op then x.args else
  if x.op == 46 then (if decide (x.a ≥ 0) then [x.a] else []) else if decide (x.op ≥ 1) && decide (x.op ≤ 13) then [x.a, x.b] else []
theorem all_int (l : List Int) : (l.map intRow).all (fun r => r.length == 1) = true := by simp [intRow]
theorem fold_int (l : List Int) : l.map (fun n => [AV.int .i64 n]) = l.map intRow := rfl
attribute [go_sem] all_int fold_int
theorem fun62 (x : Ins) (hx : x.args.length ≤ 1048576) : Fun Try.prog 62 [.agg (insRow x)] (fun r => r.frz = .fz ((usesOf x).map intRow)) := by
  refine Fun.ok Try.func62 rfl (by rfl) 51 Try.ntmps62 (by rfl) fun hok K g => ?_
  have hb : x.args.length * 8 ≤ 140737488355328 := by omega
  simp only [go_sem]
  refine AW.runs [] (by simp -implicitDefEqProofs only [go_sem]; rfl) (by trivial) ?_
  refine AW.seq ?_
  refine AW.runs [] (by simp -implicitDefEqProofs only [go_sem]; rfl) (by trivial) ?_
  refine AW.block ?_
  refine AW.seq1 (R := fun f => ∃ gg, f.Le (Fr.of [(1, .box g (insRow x)), (4, .int .u8 x.op), (5, .bool (one62 x.op))] gg 51)) ?_ fun f ⟨gg, hf⟩ => AW.weak hf ?_
  · refine AW.runs [] (by simp -implicitDefEqProofs only [go_sem]; rfl) (by trivial) ?_
    refine AW.if (by simp -implicitDefEqProofs only [go_sem]; rfl) (fun h1 => ?_) (fun h1 => ?_)
    · refine AW.skip ?_
      exact ⟨_, le_of rfl rfl (by simp [go_sem, one62, all62, *])⟩
    · refine AW.runs [] (by simp -implicitDefEqProofs only [go_sem]; rfl) (by trivial) ?_
      refine AW.if (by simp -implicitDefEqProofs only [go_sem]; rfl) (fun h2 => ?_) (fun h2 => ?_)
      · refine AW.skip ?_
        exact ⟨_, le_of rfl rfl (by simp [go_sem, one62, all62, *])⟩
      · refine AW.runs [] (by simp -implicitDefEqProofs only [go_sem]; rfl) (by trivial) ?_
        refine AW.if (by simp -implicitDefEqProofs only [go_sem]; rfl) (fun h3 => ?_) (fun h3 => ?_)
        · refine AW.skip ?_
          exact ⟨_, le_of rfl rfl (by simp [go_sem, one62, all62, *])⟩
        · refine AW.runs [] (by simp -implicitDefEqProofs only [go_sem]; rfl) (by trivial) ?_
          refine AW.if (by simp -implicitDefEqProofs only [go_sem]; rfl) (fun h4 => ?_) (fun h4 => ?_)
          · refine AW.skip ?_
            exact ⟨_, le_of rfl rfl (by simp [go_sem, one62, all62, *])⟩
          · refine AW.runs [] (by simp -implicitDefEqProofs only [go_sem]; rfl) (by trivial) ?_
            refine AW.if (by simp -implicitDefEqProofs only [go_sem]; rfl) (fun h5 => ?_) (fun h5 => ?_)
            · refine AW.skip ?_
              exact ⟨_, le_of rfl rfl (by simp [go_sem, one62, all62, *])⟩
            · refine AW.runs [] (by simp -implicitDefEqProofs only [go_sem]; rfl) (by trivial) ?_
              refine AW.if (by simp -implicitDefEqProofs only [go_sem]; rfl) (fun h6 => ?_) (fun h6 => ?_)
              · refine AW.skip ?_
                exact ⟨_, le_of rfl rfl (by simp [go_sem, one62, all62, *])⟩
              · refine AW.run [] (by simp -implicitDefEqProofs only [go_sem]; rfl) (by trivial) ?_
                exact ⟨_, le_of rfl rfl (by simp [go_sem, one62, all62, *])⟩
  · refine AW.if (by simp -implicitDefEqProofs only [go_sem]; rfl) (fun h7 => ?_) (fun h7 => ?_)
    · refine AW.runs [] (by simp -implicitDefEqProofs only [go_sem]; rfl) (by trivial) ?_
      exact AW.ret ⟨.inl rfl, _, rfl, by simp [go_sem, usesOf, *]⟩
    · refine AW.runs [] (by simp -implicitDefEqProofs only [go_sem]; rfl) (by trivial) ?_
      refine AW.if (by simp -implicitDefEqProofs only [go_sem]; rfl) (fun h8 => ?_) (fun h8 => ?_)
      · refine AW.runs [] (by simp -implicitDefEqProofs only [go_sem]; rfl) (by trivial) ?_
        exact AW.ret ⟨.inl rfl, _, rfl, by simp [go_sem, usesOf, *]⟩
      · refine AW.seq1 (R := fun f => ∃ gg, f.Le (Fr.of [(1, .box g (insRow x)), (4, .int .u8 x.op), (23, .bool (all62 x.op))] gg 51)) ?_ fun f ⟨gg, hf⟩ => AW.weak hf ?_
        · refine AW.runs [] (by simp -implicitDefEqProofs only [go_sem]; rfl) (by trivial) ?_
          refine AW.if (by simp -implicitDefEqProofs only [go_sem]; rfl) (fun h9 => ?_) (fun h9 => ?_)
          · refine AW.skip ?_
            exact ⟨_, le_of rfl rfl (by simp [go_sem, one62, all62, *])⟩
          · refine AW.run [] (by simp -implicitDefEqProofs only [go_sem]; rfl) (by trivial) ?_
            exact ⟨_, le_of rfl rfl (by simp [go_sem, one62, all62, *])⟩
        · refine AW.if (by simp -implicitDefEqProofs only [go_sem]; rfl) (fun h10 => ?_) (fun h10 => ?_)
          · refine AW.runs [] (by simp -implicitDefEqProofs only [go_sem, hb]; rfl) (by trivial) ?_
            exact AW.ret ⟨.inl rfl, _, rfl, by simp [go_sem, usesOf, *]⟩
          · refine AW.runs [] (by simp -implicitDefEqProofs only [go_sem]; rfl) (by trivial) ?_
            refine AW.if (by simp -implicitDefEqProofs only [go_sem]; rfl) (fun h11 => ?_) (fun h11 => ?_)
            · refine AW.seq ?_
              refine AW.runs [] (by simp -implicitDefEqProofs only [go_sem]; rfl) (by trivial) ?_
              refine AW.if (by simp -implicitDefEqProofs only [go_sem]; rfl) (fun h12 => ?_) (fun h12 => ?_)
              · refine AW.runs [] (by simp -implicitDefEqProofs only [go_sem]; rfl) (by trivial) ?_
                exact AW.ret ⟨.inl rfl, _, rfl, by simp [go_sem, usesOf, *]⟩
              · refine AW.skip ?_
                show AW _ _ _ _ _
                refine AW.runs [] (by simp -implicitDefEqProofs only [go_sem]; rfl) (by trivial) ?_
                exact AW.ret ⟨.inl rfl, _, rfl, by simp [go_sem, usesOf, *]⟩
            · refine AW.skip ?_
              show AW _ _ _ _ _
              cases hg : decide (x.op ≥ 1)
              · refine AW.seq (AW.runs [] (by simp -implicitDefEqProofs only [go_sem, hg]; rfl) (by trivial) (AW.if (by simp -implicitDefEqProofs only [go_sem]; rfl) (fun h13 => absurd h13 (by simp)) (fun h13 => AW.skip ?_)))
                show AW _ _ _ _ _
                refine AW.runs [] (by simp -implicitDefEqProofs only [go_sem]; rfl) (by trivial) ?_
                exact AW.ret ⟨.inl rfl, _, rfl, by simp [go_sem, usesOf, *]⟩
              · refine AW.seq ?_
                refine AW.runs [] (by simp -implicitDefEqProofs only [go_sem, hg]; rfl) (by trivial) ?_
                refine AW.if (by simp -implicitDefEqProofs only [go_sem]; rfl) (fun h13 => ?_) (fun h13 => ?_)
                · refine AW.runs [] (by simp -implicitDefEqProofs only [go_sem]; rfl) (by trivial) ?_
                  exact AW.ret ⟨.inl rfl, _, rfl, by simp [go_sem, usesOf, *]⟩
                · refine AW.skip ?_
                  show AW _ _ _ _ _
                  refine AW.runs [] (by simp -implicitDefEqProofs only [go_sem]; rfl) (by trivial) ?_
                  exact AW.ret ⟨.inl rfl, _, rfl, by simp [go_sem, usesOf, *]⟩
end Go.Proofs.Ytgoajlgkbcongaa.Vm
end
section
set_option linter.unusedVariables false
set_option linter.unusedSimpArgs false
set_option maxRecDepth 100000
namespace Go.Proofs.Ytgoajlgkbcongaa.Vm
open Go Go.RowKit Go.Proofs
theorem sum_take {α : Type} {l : List α} {i : Nat} {x : α} (f : α → Nat) (h : l[i]? = some x) : ((l.take (i + 1)).map f).sum = ((l.take i).map f).sum + f x := by
  rw [List.take_add_one, h]
  simp
theorem sum_le {α : Type} (f : α → Nat) : ∀ (l : List α) (i : Nat), ((l.take i).map f).sum ≤ (l.map f).sum
  | [], i => by simp
  | x :: l, 0 => by simp
  | x :: l, i + 1 => by
    have := sum_le f l i
    simp only [List.take_succ_cons, List.map_cons, List.sum_cons]
    omega
theorem sum_all {α : Type} (f : α → Nat) {l : List α} {i : Nat} (h : l.length ≤ i) : ((l.take i).map f).sum = (l.map f).sum := by rw [List.take_of_length_le h]
theorem sum_at {α : Type} {l : List α} {i : Nat} {x : α} (f : α → Nat) (h : l[i]? = some x) : ((l.take i).map f).sum + f x ≤ (l.map f).sum := by
  have := sum_le f l (i + 1)
  rw [sum_take f h] at this
  exact this
/-- A sum that fits. -/
theorem wrap_add (a b : Nat) (h : a + b ≤ 9223372036854775807) : IntKind.i64.wrap ((a : Int) + (b : Int)) = ((a + b : Nat) : Int) := by
  rw [wrap_in _ (by omega) (by omega)]; omega
def fcnt (f : Fn) : Nat := f.blocks.length + f.vars.length + (f.blocks.map fun b => b.ins.length).sum
def cnt (u : Unt) : Nat := u.funcs.length + u.points.length + (u.funcs.map fcnt).sum
def cntTo (u : Unt) (i : Nat) : Nat := u.funcs.length + u.points.length + ((u.funcs.take i).map fcnt).sum
def cntIn (u : Unt) (i : Nat) (f : Fn) (j : Nat) : Nat := cntTo u i + f.blocks.length + f.vars.length + ((f.blocks.take j).map fun b => b.ins.length).sum
theorem fun53 (u : Unt) (hc : cnt u ≤ 1099511627776) : Fun Try.prog 53 [.agg (untRow u)] (fun r => r = .bool (decide (cnt u > 6000))) := by
  refine Fun.ok Try.func53 rfl (by rfl) 63 Try.ntmps53 (by rfl) fun hok K g0 => ?_
  simp -implicitDefEqProofs only [go_sem]
  have c0 : cntTo u 0 = u.funcs.length + u.points.length := by simp [cntTo]
  have cN : cntTo u u.funcs.length = cnt u := by simp [cntTo, cnt]
  have cle : ∀ i, cntTo u i ≤ cnt u := fun i => by have := sum_le fcnt u.funcs i; unfold cntTo cnt; omega
  have hf : u.funcs.length + u.points.length ≤ cnt u := by unfold cnt; omega
  have hF : u.funcs.length ≤ 9223372036854775807 := by omega
  refine AW.runs [] (by simp -implicitDefEqProofs only [go_sem]; rfl) (by trivial) ?_
  refine AW.runs [] (by simp -implicitDefEqProofs only [go_sem]; rfl) (by trivial) ?_
  refine AW.seq ?_
  refine AW.runs [] (by simp -implicitDefEqProofs only [go_sem]; rfl) (by trivial) ?_
  refine AW.block ?_
  refine AW.for (X := Unit) u.funcs.length (fun i _ => [(1, .box g0 (untRow u)), (3, .int .i64 (cntTo u i)), (4, .int .i64 i)]) (fun i _ => True) ⟨(), _, trivial, le_of rfl rfl (by simp -implicitDefEqProofs [go_sem, c0, wrap_add u.funcs.length u.points.length (by omega)])⟩ fun i1 _ g hi1 hinv1 => ?_
  refine AW.seq ?_
  refine AW.runs [] (by simp -implicitDefEqProofs only [go_sem]; rfl) (by trivial) ?_
  refine AW.if (by simp -implicitDefEqProofs only [go_sem]; rfl) (fun h1 => ?_) (fun h1 => ?_)
  · have hlt1 : i1 < u.funcs.length := by have := of_decide_eq_true h1; omega
    obtain ⟨f, hff⟩ : ∃ f, u.funcs[i1]? = some f := ⟨_, List.getElem?_eq_getElem hlt1⟩
    have d0 : cntIn u i1 f 0 = cntTo u i1 + f.blocks.length + f.vars.length := by simp [cntIn]
    have dN : cntIn u i1 f f.blocks.length = cntTo u (i1 + 1) := by
      unfold cntIn cntTo
      rw [sum_take fcnt hff, sum_all _ (Nat.le_refl _)]
      unfold fcnt
      omega
    have dle : ∀ j, cntIn u i1 f j ≤ cnt u := fun j => by
      have h2 := sum_le (fun b : Block => b.ins.length) f.blocks j
      have h3 := cle (i1 + 1)
      rw [← dN] at h3
      unfold cntIn at h3 ⊢
      rw [sum_all _ (Nat.le_refl _)] at h3
      omega
    refine AW.skip ?_
    show AW _ _ _ _ _
    refine AW.seq ?_
    refine AW.block ?_
    refine AW.to [(1, .box g0 (untRow u)), (3, .int .i64 (cntTo u i1)), (4, .int .i64 i1)] rfl rfl (by simp -implicitDefEqProofs [go_sem]) ?_
    refine AW.seq ?_
    refine AW.drw 16 [[], [], [1], [], [1, 2, 3], [1, 2, 3, 4], [1, 2, 3, 4, 5], [1, 2, 3, 4, 5, 6], [0, 1, 2, 3, 4, 5, 6, 7], [], [9], [], [9, 10, 11], [9, 10, 11, 12], [9, 10, 11, 12, 13], [9, 10, 11, 12, 13, 14], [0, 1, 2, 3, 4, 5, 6, 7, 8, 9, 10, 11, 12, 13, 14, 15], [0, 1, 2, 3, 4, 5, 6, 7, 8, 9, 10, 11, 12, 13, 14, 15, 16]] [20, 21, 22, 23, 24, 25, 26, 27, 28, 29, 30, 31, 32, 33, 34, 35] [] [] f_mix (by kernel_rfl) (by kernel_rfl) (by kernel_rfl) rfl rfl (by simp -implicitDefEqProofs only [go_sem, hff]; rfl) (by trivial) (by simp -implicitDefEqProofs only [go_sem]; rfl) (by trivial) ?_
    show AW _ _ _ _ _
    refine AW.runs [] (by simp -implicitDefEqProofs only [go_sem]; rfl) (by trivial) ?_
    refine AW.block ?_
    have e1 := dle 0
    rw [d0] at e1
    refine AW.for (X := Unit) f.blocks.length (fun j _ => [(1, .box g0 (untRow u)), (3, .int .i64 (cntIn u i1 f j)), (4, .int .i64 i1), (5, .int .i64 j)]) (fun j _ => True) ⟨(), _, trivial, le_of rfl rfl (by simp -implicitDefEqProofs [go_sem, d0, wrap_add (cntTo u i1) f.blocks.length (by omega), wrap_in ((cntTo u i1 : Int) + f.blocks.length + f.vars.length) (by omega) (by omega)])⟩ fun i2 _ g hi2 hinv2 => ?_
    refine AW.seq ?_
    refine AW.runs [] (by simp -implicitDefEqProofs only [go_sem, hff]; rfl) (by trivial) ?_
    refine AW.if (by simp -implicitDefEqProofs only [go_sem]; rfl) (fun h2 => ?_) (fun h2 => ?_)
    · have hlt2 : i2 < f.blocks.length := by have := of_decide_eq_true h2; omega
      obtain ⟨b, hb⟩ : ∃ b, f.blocks[i2]? = some b := ⟨_, List.getElem?_eq_getElem hlt2⟩
      have dS : cntIn u i1 f (i2 + 1) = cntIn u i1 f i2 + b.ins.length := by unfold cntIn; rw [sum_take _ hb]; omega
      have e2 := dle (i2 + 1)
      have e3 : f.blocks.length ≤ cnt u := by have := dle 0; rw [d0] at this; omega
      refine AW.skip ?_
      show AW _ _ _ _ _
      refine AW.seq ?_
      refine AW.block ?_
      refine AW.run [] (by simp -implicitDefEqProofs only [go_sem, hff, hb]; rfl) (by trivial) ?_
      show AW _ _ _ _ _
      refine AW.run [] (by simp -implicitDefEqProofs only [go_sem]; rfl) (by trivial) ?_
      exact ⟨hlt2, (), _, trivial, le_of rfl rfl (by simp -implicitDefEqProofs [go_sem, dS, wrap_succ i2 f.blocks.length hlt2 (by omega), wrap_add (cntIn u i1 f i2) b.ins.length (by omega)])⟩
    · have : i2 = f.blocks.length := by have := of_decide_eq_false h2; omega
      subst this
      refine AW.exit ?_
      simp -implicitDefEqProofs only [thenQ_exit, blockQ_exit, thenQ_normal, blockQ_normal, reduceIte]
      refine AW.run [] (by simp -implicitDefEqProofs only [go_sem]; rfl) (by trivial) ?_
      refine ⟨hlt1, (), g, trivial, ?_⟩
      refine le_of (n := 63) (g := g) (by simp -implicitDefEqProofs only [go_sem]) (by simp -implicitDefEqProofs only [go_sem]) ?_
      simp -implicitDefEqProofs [go_sem, dN, wrap_succ i1 u.funcs.length hlt1 hF]
  · have : i1 = u.funcs.length := by have := of_decide_eq_false h1; omega
    subst this
    refine AW.exit ?_
    show AW _ _ _ _ _
    refine AW.runs [] (by simp -implicitDefEqProofs only [go_sem]; rfl) (by trivial) ?_
    exact AW.ret ⟨.inl rfl, _, rfl, by simp -implicitDefEqProofs [go_sem, cN]; omega⟩
end Go.Proofs.Ytgoajlgkbcongaa.Vm
end
section
set_option linter.unusedVariables false
set_option linter.unusedSimpArgs false
set_option maxRecDepth 100000
namespace Go.Proofs.Ytgoajlgkbcongaa.Vm
open Go Go.RowKit Go.Proofs
def bigFn (f : Fn) : Bool := decide ((f.blocks.length : Int) > 60) || decide (f.size > 2000)
def smallOf (u : Unt) : Bool := !decide (cnt u > 6000) && u.funcs.all fun f => !bigFn f
theorem all_take {α : Type} {l : List α} {i : Nat} {x : α} {p : α → Bool} (h : (l.take i).all p = true) (hx : l[i]? = some x) (hp : p x = true) : (l.take (i + 1)).all p = true := by
  rw [List.take_add_one, hx]
  simp [List.all_append, h, hp]
theorem all_not {α : Type} {l : List α} {i : Nat} {x : α} {p : α → Bool} (hx : l[i]? = some x) (hp : p x = false) : l.all p = false := by
  rw [List.all_eq_false]
  exact ⟨x, List.mem_of_getElem? hx, by simp [hp]⟩
theorem fun15 (u : Unt) (hc : cnt u ≤ 1099511627776) : Fun Try.prog 15 [.agg (untRow u)] (fun r => r = .bool (smallOf u)) := by
  refine Fun.ok Try.func15 rfl (by rfl) 30 Try.ntmps15 (by rfl) fun hok K g0 => ?_
  simp only [go_sem]
  have hf : u.funcs.length + u.points.length ≤ cnt u := by unfold cnt; omega
  have hF : u.funcs.length ≤ 9223372036854775807 := by omega
  refine AW.runs [] (by simp -implicitDefEqProofs only [go_sem]; rfl) (by trivial) ?_
  refine AW.seq ?_
  refine AW.runs [.bool (decide (cnt u > 6000))] (by simp -implicitDefEqProofs only [go_sem]; rfl) (ob1 (fun53 u hc).obb) ?_
  refine AW.if (by simp -implicitDefEqProofs only [go_sem]; rfl) (fun h1 => ?_) (fun h1 => ?_)
  · refine AW.runs [] (by simp -implicitDefEqProofs only [go_sem]; rfl) (by trivial) ?_
    exact AW.ret ⟨.inl rfl, _, rfl, by simp -implicitDefEqProofs only [go_sem, smallOf, h1]⟩
  refine AW.skip ?_
  show AW _ _ _ _ _
  refine AW.seq ?_
  refine AW.runs [] (by simp -implicitDefEqProofs only [go_sem]; rfl) (by trivial) ?_
  refine AW.block ?_
  refine AW.for (X := Unit) (n := 30) u.funcs.length (fun i _ => [(1, .box g0 (untRow u)), (3, .int .i64 i)]) (fun i _ => ((u.funcs.take i).all fun f => !bigFn f) = true) ⟨(), g0 + 1, by simp, le_of (by simp -implicitDefEqProofs only [go_sem]) (by simp -implicitDefEqProofs only [go_sem]) (by simp [go_sem])⟩ fun i _ g hi hinv => ?_
  refine AW.seq ?_
  refine AW.runs [] (by simp -implicitDefEqProofs only [go_sem]; rfl) (by trivial) ?_
  refine AW.if (by simp -implicitDefEqProofs only [go_sem]; rfl) (fun h2 => ?_) (fun h2 => ?_)
  · have hlt : i < u.funcs.length := by have := of_decide_eq_true h2; omega
    obtain ⟨f, hff⟩ : ∃ f, u.funcs[i]? = some f := ⟨_, List.getElem?_eq_getElem hlt⟩
    refine AW.skip ?_
    show AW _ _ _ _ _
    refine AW.seq ?_
    refine AW.block ?_
    cases h3 : decide ((f.blocks.length : Int) > 60)
    · refine AW.runs [] (by simp -implicitDefEqProofs only [go_sem, hff, h3]; rfl) (by trivial) ?_
      refine AW.if (by simp -implicitDefEqProofs only [go_sem]; rfl) (fun h4 => ?_) (fun h4 => ?_)
      · refine AW.runs [] (by simp -implicitDefEqProofs only [go_sem]; rfl) (by trivial) ?_
        have hb : bigFn f = true := by simp only [bigFn, h3, h4, Bool.false_or]
        exact AW.ret ⟨.inl rfl, _, rfl, by simp -implicitDefEqProofs only [go_sem, smallOf, all_not (p := fun f => !bigFn f) hff (by simp [hb])]⟩
      · have hb : bigFn f = false := by simp only [bigFn, h3, h4, Bool.false_or]
        refine AW.skip ?_
        show AW _ _ _ _ _
        refine AW.run [] (by simp -implicitDefEqProofs only [go_sem]; rfl) (by trivial) ?_
        exact ⟨hlt, (), g, all_take hinv hff (by simp [hb]), le_of (by simp -implicitDefEqProofs only [go_sem]) (by simp -implicitDefEqProofs only [go_sem]) (by simp [go_sem, wrap_succ i u.funcs.length hlt hF])⟩
    · refine AW.runs [] (by simp -implicitDefEqProofs only [go_sem, hff, h3]; rfl) (by trivial) ?_
      refine AW.if (by simp -implicitDefEqProofs only [go_sem]; rfl) (fun h4 => ?_) (fun h4 => absurd h4 (by simp))
      refine AW.runs [] (by simp -implicitDefEqProofs only [go_sem]; rfl) (by trivial) ?_
      have hb : bigFn f = true := by simp only [bigFn, h3, Bool.true_or]
      exact AW.ret ⟨.inl rfl, _, rfl, by simp -implicitDefEqProofs only [go_sem, smallOf, all_not (p := fun f => !bigFn f) hff (by simp [hb])]⟩
  · have : i = u.funcs.length := by have := of_decide_eq_false h2; omega
    subst this
    rw [List.take_of_length_le (Nat.le_refl _)] at hinv
    refine AW.exit ?_
    show AW _ _ _ _ _
    refine AW.runs [] (by simp -implicitDefEqProofs only [go_sem]; rfl) (by trivial) ?_
    exact AW.ret ⟨.inl rfl, _, rfl, by simp -implicitDefEqProofs only [go_sem, smallOf, h1, hinv]⟩
end Go.Proofs.Ytgoajlgkbcongaa.Vm
end
section
set_option linter.unusedVariables false
set_option linter.unusedSimpArgs false
set_option maxRecDepth 100000
namespace Go.Proofs.Ytgoajlgkbcongaa.Vm
open Go Go.RowKit Go.Proofs
theorem usesOf_len (x : Ins) (hx : x.args.length ≤ 1048576) : (usesOf x).length ≤ 1048576 := by
  unfold usesOf
  repeat' split
  all_goals first | exact hx | simp
theorem fun38 (x : Ins) (y : Int) (hx : x.args.length ≤ 1048576) : Fun Try.prog 38 [.agg (insRow x), .int .i64 y] (fun r => r = .bool (decide (y ∈ usesOf x))) := by
  refine Fun.ok Try.func38 rfl (by rfl) 21 Try.ntmps38 (by rfl) fun hok K g0 => ?_
  simp only [go_sem]
  have hl := usesOf_len x hx
  refine AW.runs [] (by simp -implicitDefEqProofs only [go_sem]; rfl) (by trivial) ?_
  refine AW.runs [.fz ((usesOf x).map intRow)] (by simp -implicitDefEqProofs only [go_sem]; rfl) (ob1 (fun62 x hx).obf) ?_
  refine AW.seq ?_
  refine AW.runs [] (by simp -implicitDefEqProofs only [go_sem]; rfl) (by trivial) ?_
  refine AW.block ?_
  refine AW.for (X := Unit) (n := 21) (usesOf x).length (fun i _ => [(1, .int .i64 y), (5, .fz ((usesOf x).map intRow)), (6, .int .i64 i)]) (fun i _ => y ∉ (usesOf x).take i) ⟨(), g0 + 1, by simp, le_of (by simp -implicitDefEqProofs only [go_sem]) (by simp -implicitDefEqProofs only [go_sem]) (by simp [go_sem])⟩ fun i _ g hi hinv => ?_
  refine AW.seq ?_
  refine AW.runs [] (by simp -implicitDefEqProofs only [go_sem]; rfl) (by trivial) ?_
  refine AW.if (by simp -implicitDefEqProofs only [go_sem]; rfl) (fun h1 => ?_) (fun h1 => ?_)
  · have hlt : i < (usesOf x).length := by have := of_decide_eq_true h1; omega
    obtain ⟨z, hz⟩ : ∃ z, (usesOf x)[i]? = some z := ⟨_, List.getElem?_eq_getElem hlt⟩
    refine AW.skip ?_
    show AW _ _ _ _ _
    refine AW.seq ?_
    refine AW.block ?_
    refine AW.runs [] (by simp -implicitDefEqProofs only [go_sem, hz]; rfl) (by trivial) ?_
    refine AW.if (by simp -implicitDefEqProofs only [go_sem]; rfl) (fun h2 => ?_) (fun h2 => ?_)
    · have he : z = y := by simpa using h2
      subst he
      have hm : z ∈ usesOf x := List.mem_of_getElem? hz
      refine AW.runs [] (by simp -implicitDefEqProofs only [go_sem]; rfl) (by trivial) ?_
      exact AW.ret ⟨.inl rfl, _, rfl, by simp [go_sem, hm]⟩
    · have hne : y ≠ z := by have : z ≠ y := by simpa using h2
                             exact Ne.symm this
      refine AW.skip ?_
      show AW _ _ _ _ _
      refine AW.run [] (by simp -implicitDefEqProofs only [go_sem]; rfl) (by trivial) ?_
      exact ⟨hlt, (), g, take_mem hz hinv hne, le_of (by simp -implicitDefEqProofs only [go_sem]) (by simp -implicitDefEqProofs only [go_sem]) (by simp [go_sem, wrap_succ i (usesOf x).length hlt (by omega)])⟩
  · have hn : y ∉ usesOf x := by
      have := of_decide_eq_false h1
      rwa [List.take_of_length_le (by omega)] at hinv
    refine AW.exit ?_
    show AW _ _ _ _ _
    refine AW.runs [] (by simp -implicitDefEqProofs only [go_sem]; rfl) (by trivial) ?_
    exact AW.ret ⟨.inl rfl, _, rfl, by simp [go_sem, hn]⟩
theorem tbf : (true == false) = false := rfl
theorem fbt : (false == true) = false := rfl
attribute [go_sem] tbf fbt
def movableOf (op : Int) : Bool := (op == 32 || op == 33 || op == 36) || (decide (op ≥ 1) && decide (op ≤ 15) && op != 4 && op != 5)
theorem fun39 (x : Ins) : Fun Try.prog 39 [.agg (insRow x)] (fun r => r = .bool (movableOf x.op)) := by
  refine Fun.ok Try.func39 rfl (by rfl) 36 Try.ntmps39 (by rfl) fun hok K g0 => ?_
  simp only [go_sem]
  refine AW.runs [] (by simp -implicitDefEqProofs only [go_sem]; rfl) (by trivial) ?_
  cases h1 : (x.op == 32)
  · cases h2 : (x.op == 33)
    · cases h3 : (x.op == 36)
      · cases h4 : decide (x.op ≥ 1)
        · exact AW.runs [] (by simp -implicitDefEqProofs only [go_sem, h1, h2, h3, h4]; rfl) (by trivial) (AW.ret ⟨.inl rfl, _, rfl, by simp -implicitDefEqProofs only [go_sem, movableOf, h1, h2, h3, h4]⟩)
        · cases h5 : decide (x.op ≤ 15)
          · exact AW.runs [] (by simp -implicitDefEqProofs only [go_sem, h1, h2, h3, h4, h5]; rfl) (by trivial) (AW.ret ⟨.inl rfl, _, rfl, by simp -implicitDefEqProofs only [go_sem, movableOf, h1, h2, h3, h4, h5]⟩)
          · cases h6 : (x.op != 4)
            · exact AW.runs [] (by simp -implicitDefEqProofs only [go_sem, h1, h2, h3, h4, h5, h6]; rfl) (by trivial) (AW.ret ⟨.inl rfl, _, rfl, by simp -implicitDefEqProofs only [go_sem, movableOf, h1, h2, h3, h4, h5, h6]⟩)
            · exact AW.runs [] (by simp -implicitDefEqProofs only [go_sem, h1, h2, h3, h4, h5, h6]; rfl) (by trivial) (AW.ret ⟨.inl rfl, _, rfl, by simp -implicitDefEqProofs only [go_sem, movableOf, h1, h2, h3, h4, h5, h6]⟩)
      · exact AW.runs [] (by simp -implicitDefEqProofs only [go_sem, h1, h2, h3]; rfl) (by trivial) (AW.ret ⟨.inl rfl, _, rfl, by simp -implicitDefEqProofs only [go_sem, movableOf, h1, h2, h3]⟩)
    · exact AW.runs [] (by simp -implicitDefEqProofs only [go_sem, h1, h2]; rfl) (by trivial) (AW.ret ⟨.inl rfl, _, rfl, by simp -implicitDefEqProofs only [go_sem, movableOf, h1, h2]⟩)
  · exact AW.runs [] (by simp -implicitDefEqProofs only [go_sem, h1]; rfl) (by trivial) (AW.ret ⟨.inl rfl, _, rfl, by simp -implicitDefEqProofs only [go_sem, movableOf, h1]⟩)
end Go.Proofs.Ytgoajlgkbcongaa.Vm
end
section
set_option linter.unusedVariables false
set_option linter.unusedSimpArgs false
set_option maxRecDepth 100000
namespace Go.Proofs.Ytgoajlgkbcongaa.Vm
open Go Go.RowKit Go.Proofs
def two108 (op : Int) : Bool := (decide (op ≥ 1) && decide (op ≤ 13)) || op == 38
def one108 (op : Int) : Bool := op == 14 || op == 15 || op == 36 || op == 37 || op == 40 || op == 44 || op == 46
def schedLooks (x : Ins) : List Int := if two108 x.op then [x.a, x.b] else if one108 x.op then [x.a] else if x.op == 42 then x.args else []
theorem fun108 (x : Ins) : Fun Try.prog 108 [.agg (insRow x)] (fun r => r.frz = .fz ((schedLooks x).map intRow)) := by
  refine Fun.ok Try.func108 rfl (by rfl) 51 Try.ntmps108 (by rfl) fun hok K g => ?_
  simp -implicitDefEqProofs only [go_sem]
  refine AW.runs [] (by simp -implicitDefEqProofs only [go_sem]; rfl) (by trivial) ?_
  refine AW.seq ?_
  refine AW.block ?_
  refine AW.seq1 (R := fun f => ∃ gg, f.Le (Fr.of [(1, .box g (insRow x)), (3, .bool (two108 x.op))] gg 51)) ?_ fun f ⟨gg, hf⟩ => AW.weak hf ?_
  · cases hg : decide (x.op ≥ 1)
    · refine AW.runs [] (by simp -implicitDefEqProofs only [go_sem, hg]; rfl) (by trivial) ?_
      refine AW.if (by simp -implicitDefEqProofs only [go_sem]; rfl) (fun h1 => ?_) (fun h1 => ?_)
      · refine AW.skip ?_
        first | cases h1; done | exact ⟨_, le_of rfl rfl (by simp [go_sem, two108, one108, *])⟩
      · refine AW.run [] (by simp -implicitDefEqProofs only [go_sem]; rfl) (by trivial) ?_
        exact ⟨_, le_of rfl rfl (by simp [go_sem, two108, one108, *])⟩
    · refine AW.runs [] (by simp -implicitDefEqProofs only [go_sem, hg]; rfl) (by trivial) ?_
      refine AW.if (by simp -implicitDefEqProofs only [go_sem]; rfl) (fun h1 => ?_) (fun h1 => ?_)
      · refine AW.skip ?_
        exact ⟨_, le_of rfl rfl (by simp [go_sem, two108, one108, *])⟩
      · refine AW.run [] (by simp -implicitDefEqProofs only [go_sem]; rfl) (by trivial) ?_
        exact ⟨_, le_of rfl rfl (by simp [go_sem, two108, one108, *])⟩
  · refine AW.if (by simp -implicitDefEqProofs only [go_sem]; rfl) (fun h2 => ?_) (fun h2 => ?_)
    · refine AW.runs [] (by simp -implicitDefEqProofs only [go_sem]; rfl) (by trivial) ?_
      exact AW.ret ⟨.inl rfl, _, rfl, by simp [go_sem, schedLooks, *]⟩
    · refine AW.seq1 (R := fun f => ∃ gg, f.Le (Fr.of [(1, .box g (insRow x)), (20, .bool (one108 x.op))] gg 51)) ?_ fun f ⟨gg, hf⟩ => AW.weak hf ?_
      · refine AW.runs [] (by simp -implicitDefEqProofs only [go_sem]; rfl) (by trivial) ?_
        refine AW.if (by simp -implicitDefEqProofs only [go_sem]; rfl) (fun h3 => ?_) (fun h3 => ?_)
        · refine AW.skip ?_
          exact ⟨_, le_of rfl rfl (by simp [go_sem, two108, one108, *])⟩
        · refine AW.runs [] (by simp -implicitDefEqProofs only [go_sem]; rfl) (by trivial) ?_
          refine AW.if (by simp -implicitDefEqProofs only [go_sem]; rfl) (fun h4 => ?_) (fun h4 => ?_)
          · refine AW.skip ?_
            exact ⟨_, le_of rfl rfl (by simp [go_sem, two108, one108, *])⟩
          · refine AW.runs [] (by simp -implicitDefEqProofs only [go_sem]; rfl) (by trivial) ?_
            refine AW.if (by simp -implicitDefEqProofs only [go_sem]; rfl) (fun h5 => ?_) (fun h5 => ?_)
            · refine AW.skip ?_
              exact ⟨_, le_of rfl rfl (by simp [go_sem, two108, one108, *])⟩
            · refine AW.runs [] (by simp -implicitDefEqProofs only [go_sem]; rfl) (by trivial) ?_
              refine AW.if (by simp -implicitDefEqProofs only [go_sem]; rfl) (fun h6 => ?_) (fun h6 => ?_)
              · refine AW.skip ?_
                exact ⟨_, le_of rfl rfl (by simp [go_sem, two108, one108, *])⟩
              · refine AW.runs [] (by simp -implicitDefEqProofs only [go_sem]; rfl) (by trivial) ?_
                refine AW.if (by simp -implicitDefEqProofs only [go_sem]; rfl) (fun h7 => ?_) (fun h7 => ?_)
                · refine AW.skip ?_
                  exact ⟨_, le_of rfl rfl (by simp [go_sem, two108, one108, *])⟩
                · refine AW.runs [] (by simp -implicitDefEqProofs only [go_sem]; rfl) (by trivial) ?_
                  refine AW.if (by simp -implicitDefEqProofs only [go_sem]; rfl) (fun h8 => ?_) (fun h8 => ?_)
                  · refine AW.skip ?_
                    exact ⟨_, le_of rfl rfl (by simp [go_sem, two108, one108, *])⟩
                  · refine AW.run [] (by simp -implicitDefEqProofs only [go_sem]; rfl) (by trivial) ?_
                    exact ⟨_, le_of rfl rfl (by simp [go_sem, two108, one108, *])⟩
      · refine AW.if (by simp -implicitDefEqProofs only [go_sem]; rfl) (fun h9 => ?_) (fun h9 => ?_)
        · refine AW.runs [] (by simp -implicitDefEqProofs only [go_sem]; rfl) (by trivial) ?_
          exact AW.ret ⟨.inl rfl, _, rfl, by simp [go_sem, schedLooks, *]⟩
        · refine AW.runs [] (by simp -implicitDefEqProofs only [go_sem]; rfl) (by trivial) ?_
          refine AW.if (by simp -implicitDefEqProofs only [go_sem]; rfl) (fun h10 => ?_) (fun h10 => ?_)
          · refine AW.runs [] (by simp -implicitDefEqProofs only [go_sem]; rfl) (by trivial) ?_
            exact AW.ret ⟨.inl rfl, _, rfl, by simp [go_sem, schedLooks, *]⟩
          · refine AW.skip ?_
            show AW _ _ _ _ _
            refine AW.runs [] (by simp -implicitDefEqProofs only [go_sem]; rfl) (by trivial) ?_
            exact AW.ret ⟨.inl rfl, _, rfl, by simp [go_sem, schedLooks, *]⟩
end Go.Proofs.Ytgoajlgkbcongaa.Vm
end
section
set_option linter.unusedVariables false
set_option linter.unusedSimpArgs false
set_option maxRecDepth 100000
namespace Go.Proofs.Ytgoajlgkbcongaa.Vm
open Go Go.RowKit Go.Proofs
/-- The ends of a function's blocks. -/
def termsOf (f : Fn) : List Term := f.blocks.map (·.term)
def nextAt (ts : List Term) (k : Nat) : List Int := match ts[k]? with
  | some t => nextOf t
  | none => []
/-- The way of Reached: n rounds at most; what is reached; what waits. -/
def rgo (ts : List Term) : Nat → List Bool → List Int → List Bool
  | 0, out, _ => out
  | _ + 1, out, [] => out
  | n + 1, out, x :: l => if out.getD x.toNat true = true then rgo ts n out l else rgo ts n (out.set x.toNat true) (l ++ nextAt ts x.toNat)
def reachedOf (ts : List Term) : List Bool := rgo ts (3 * ts.length + 1) (List.replicate ts.length false) [0]
/-- Each end goes to a block. -/
def Targets (ts : List Term) : Prop := ∀ t ∈ ts, ∀ x ∈ nextOf t, 0 ≤ x ∧ x < (ts.length : Int)
theorem next_len (t : Term) : (nextOf t).length ≤ 2 := by
  unfold nextOf
  split
  · simp
  · split <;> simp
structure RI (ts : List Term) (start out : List Bool) (l : List Int) (i m : Nat) : Prop where
  hi : i ≤ l.length
  ho : out.length = ts.length
  hl : ∀ x ∈ l, 0 ≤ x ∧ x < (ts.length : Int)
  hm : 3 * out.count false + (l.length - i) ≤ m
  hr : rgo ts m out (l.drop i) = start
  hb : l.length + 2 * out.count false ≤ 2 * ts.length + 1
theorem count_set {out : List Bool} {k : Nat} (h : out[k]? = some false) : (out.set k true).count false + 1 = out.count false := by
  have hk := (List.getElem?_eq_some_iff.1 h).1
  have h2 : out[k] = false := by have := List.getElem?_eq_getElem hk; rw [h] at this; exact (Option.some.inj this).symm
  rw [List.count_set hk]
  have hpos : 0 < out.count false := List.count_pos_iff.2 (by rw [← h2]; exact List.getElem_mem hk)
  simp [h2]
  omega
theorem RI.at {ts : List Term} {start out : List Bool} {l : List Int} {i m : Nat} (h : RI ts start out l i m) (hlt : i < l.length) : ∃ k : Nat, l[i]? = some (k : Int) ∧ k < ts.length ∧ (∃ b, out[k]? = some b) ∧ 0 < m := by
  have hx := List.getElem?_eq_getElem hlt
  obtain ⟨h1, h2⟩ := h.hl _ (List.getElem_mem hlt)
  obtain ⟨k, hk⟩ := Int.eq_ofNat_of_zero_le h1
  have hk2 : k < ts.length := by rw [hk] at h2; omega
  exact ⟨k, by rw [hx, hk], hk2, get_of_lt (by rw [h.ho]; exact hk2), by have := h.hm; omega⟩
theorem RI.seen {ts : List Term} {start out : List Bool} {l : List Int} {i m k : Nat} (h : RI ts start out l i m) (hlt : i < l.length) (hx : l[i]? = some (k : Int)) (ho : out[k]? = some true) : m - 1 < m ∧ RI ts start out l (i + 1) (m - 1) := by
  have hm0 : 0 < m := by have := h.hm; omega
  obtain ⟨m, rfl⟩ : ∃ q, m = q + 1 := ⟨m - 1, by omega⟩
  refine ⟨by omega, hlt, h.ho, h.hl, by have := h.hm; omega, ?_, h.hb⟩
  have := h.hr
  rw [List.drop_eq_getElem_cons hlt] at this
  have e : l[i] = (k : Int) := by have := List.getElem?_eq_getElem hlt; rw [hx] at this; exact (Option.some.inj this).symm
  rw [e, rgo] at this
  simpa [ho] using this
theorem RI.new {ts : List Term} {start out : List Bool} {l : List Int} {i m k : Nat} {t : Term} (h : RI ts start out l i m) (ht : Targets ts) (hlt : i < l.length) (hx : l[i]? = some (k : Int)) (ho : out[k]? = some false) (hk : ts[k]? = some t) : m - 1 < m ∧ RI ts start (out.set k true) (l ++ nextOf t) (i + 1) (m - 1) := by
  have hm0 : 0 < m := by have := h.hm; omega
  obtain ⟨m, rfl⟩ : ∃ q, m = q + 1 := ⟨m - 1, by omega⟩
  have hc := count_set ho
  have hn := next_len t
  refine ⟨by omega, by simp; omega, by simp [h.ho], fun x hx => ?_, ?_, ?_, ?_⟩
  · rcases List.mem_append.1 hx with h1 | h1
    · exact h.hl x h1
    · exact ht t (List.mem_of_getElem? hk) x h1
  · have := h.hm
    simp only [List.length_append]
    omega
  · have := h.hr
    rw [List.drop_eq_getElem_cons hlt] at this
    have e : l[i] = (k : Int) := by have := List.getElem?_eq_getElem hlt; rw [hx] at this; exact (Option.some.inj this).symm
    rw [e, rgo] at this
    simp only [Int.toNat_natCast, List.getD_eq_getElem?_getD, ho, Option.getD_some, Bool.false_eq_true, if_false, nextAt, hk] at this
    rw [List.drop_append_of_le_length (by omega)]
    simpa using this
  · have := h.hb
    simp only [List.length_append]
    omega
theorem RI.done {ts : List Term} {start out : List Bool} {l : List Int} {i m : Nat} (h : RI ts start out l i m) (hi : l.length ≤ i) : out = start := by
  have := h.hr
  rw [List.drop_of_length_le hi] at this
  cases m <;> simpa [rgo] using this
theorem fold_bool (l : List Bool) : l.map (fun b => [AV.bool b]) = l.map boolRow := rfl
theorem repl_bool (n : Nat) (b : Bool) : List.replicate n [AV.bool b] = (List.replicate n b).map boolRow := by simp [boolRow]
theorem repl_int (n : Nat) (b : Int) : List.replicate n [AV.int .i64 b] = (List.replicate n b).map intRow := by simp [intRow]
theorem modify_map {α : Type} (f : α → List AV) (l : List α) (k : Nat) (u : AV) (b : α) (h : ∀ x, (f x).set 0 u = f b) : setCell (l.map f) k 0 u = (l.set k b).map f := by
  unfold setCell
  refine List.ext_getElem? fun j => ?_
  rw [List.getElem?_modify, List.getElem?_map, List.getElem?_map, List.getElem?_set]
  by_cases e : k = j
  · subst e
    cases hl : l[k]? with
    | none => have := List.getElem?_eq_none_iff.1 hl; simp [Nat.not_lt.2 this]
    | some x => have := (List.getElem?_eq_some_iff.1 hl).1; simp [this, h]
  · cases l[j]? <;> simp [e]
theorem set_bool (l : List Bool) (k : Nat) (b : Bool) : setCell (l.map boolRow) k 0 (.bool b) = (l.set k b).map boolRow := modify_map _ _ _ _ _ fun _ => rfl
theorem set_int (l : List Int) (k : Nat) (b : Int) : setCell (l.map intRow) k 0 (.int .i64 b) = (l.set k b).map intRow := modify_map _ _ _ _ _ fun _ => rfl
theorem app_map {α β : Type} (f : α → β) (l k : List α) : l.map f ++ k.map f = (l ++ k).map f := List.map_append.symm
attribute [go_sem] app_map List.length_append
attribute [go_sem] fold_bool repl_bool repl_int set_bool set_int
theorem one_int (n : Int) : [[AV.int .i64 n]] = [n].map intRow := rfl
theorem frz_bools (id : Nat) (l : List Bool) : (AV.own id 1 (l.map boolRow)).frz = .fz (l.map boolRow) := by rw [AV.frz]; simp [boolRow, AV.frz]
theorem frz_ints (id : Nat) (l : List Int) : (AV.own id 1 (l.map intRow)).frz = .fz (l.map intRow) := by rw [AV.frz]; simp [intRow, AV.frz]
attribute [go_sem] frz_bools frz_ints
theorem fun63 (f : Fn) (h0 : 0 < f.blocks.length) (h1 : f.blocks.length ≤ 1048576) (ht : Targets (termsOf f)) : Fun Try.prog 63 [.agg (fnRow f)] (fun r => r.frz = .fz ((reachedOf (termsOf f)).map boolRow)) := by
  refine Fun.ok Try.func63 rfl (by rfl) 43 Try.ntmps63 (by rfl) fun hok K g0 => ?_
  simp -implicitDefEqProofs only [go_sem]
  have hts : (termsOf f).length = f.blocks.length := by simp [termsOf]
  have hb8 : f.blocks.length ≤ 281474976710656 := by omega
  have hb9 : f.blocks.length ≤ 9223372036854775807 := by omega
  refine AW.runs [] (by simp -implicitDefEqProofs only [go_sem, hb8, hb9]; rfl) (by trivial) ?_
  refine AW.runs [] (by simp -implicitDefEqProofs only [go_sem, hb8, hb9]; rfl) (by trivial) ?_
  refine AW.runs [] (by simp -implicitDefEqProofs only [go_sem, hb8, hb9]; rfl) (by trivial) ?_
  refine AW.seq ?_
  refine AW.runs [] (by simp -implicitDefEqProofs only [go_sem, hb8, hb9]; rfl) (by trivial) ?_
  refine AW.block ?_
  refine AW.loopH (X := Nat × Nat × List Int × List Bool × Nat × Nat) (fun x => x.2.2.2.2.2) (fun x => [(1, .box g0 (fnRow f)), (3, .own x.1 1 (x.2.2.2.1.map boolRow)), (4, .own x.2.1 1 (x.2.2.1.map intRow)), (5, .int .i64 x.2.2.2.2.1)]) (fun x => RI (termsOf f) (reachedOf (termsOf f)) x.2.2.2.1 x.2.2.1 x.2.2.2.2.1 x.2.2.2.2.2) 43 ⟨(g0 + 1, g0 + 2, [0], List.replicate f.blocks.length false, 0, 3 * f.blocks.length + 1), ⟨by simp, by simp [hts], by simp [hts]; omega, by simp [List.count_replicate], by rw [reachedOf, hts]; rfl, by simp [hts, List.count_replicate]; omega⟩, ⟨by simp -implicitDefEqProofs only [go_sem], by simp -implicitDefEqProofs only [go_sem, hb8, hb9]; try simp [hb8, hb9]⟩⟩ fun x g1 hinv => ?_
  obtain ⟨idO, idL, l, out, i, m⟩ := x
  simp only at hinv ⊢
  refine AW.seq ?_
  refine AW.runs [] (by simp -implicitDefEqProofs only [go_sem, hb8, hb9]; rfl) (by trivial) ?_
  refine AW.if (by simp -implicitDefEqProofs only [go_sem, hb8, hb9]; rfl) (fun ht14 => ?_) (fun ht14 => ?_)
  · have hlt : i < l.length := lt_dec ht14
    obtain ⟨k, hx, hk, ⟨bo, hxo⟩, hm⟩ := hinv.at hlt
    obtain ⟨b, hbb⟩ := get_of_lt (hts ▸ hk : k < f.blocks.length)
    have hbt : (termsOf f)[k]? = some b.term := map_get _ hbb
    have hstep := step_int i (by have := hinv.hb; have := hinv.hi; omega)
    have hok : k < out.length := by rw [hinv.ho]; exact hk
    refine AW.skip ?_
    show AW _ _ _ _ _
    refine AW.seq ?_
    refine AW.block ?_
    refine AW.seq ?_
    refine AW.runs [] (by simp -implicitDefEqProofs only [go_sem, hb8, hb9, hx, hxo, hbb, hlt, hok]; rfl) (by trivial) ?_
    refine AW.if (by simp -implicitDefEqProofs only [go_sem, hb8, hb9, hx, hxo, hbb, hlt, hok]; rfl) (fun ht23 => ?_) (fun ht23 => ?_)
    · refine AW.exit ?_
      show AW _ _ _ _ _
      refine AW.run [] (by simp -implicitDefEqProofs only [go_sem, hb8, hb9, hx, hxo, hbb, hlt, hok]; rfl) (by trivial) ?_
      have hs := hinv.seen hlt hx (by rw [hxo, ht23])
      exact ⟨(idO, idL, l, out, i + 1, m - 1), hs.1, hs.2, ⟨by simp -implicitDefEqProofs only [go_sem], by simp -implicitDefEqProofs only [go_sem, hb8, hb9, hx, hxo, hbb, hlt, hok, hstep]; try simp [hb8, hb9, hx, hxo, hbb, hlt, hok, hstep]⟩⟩
    · refine AW.skip ?_
      show AW _ _ _ _ _
      refine AW.runs [] (by simp -implicitDefEqProofs only [go_sem, hb8, hb9, hx, hxo, hbb, hlt, hok]; rfl) (by trivial) ?_
      have hbn : (l.length + (nextOf b.term).length) * 8 ≤ 140737488355328 := by have := hinv.hb; have := next_len b.term; omega
      refine AW.has (n := 43) [(1, .box g0 (fnRow f)), (3, .own idO 1 ((out.set k true).map boolRow)), (4, .own idL 1 (l.map intRow)), (5, .int .i64 i)] (⟨by simp -implicitDefEqProofs only [go_sem], by simp -implicitDefEqProofs only [go_sem, hb8, hb9, hx, hxo, hbb, hlt, hok, hbn]; try simp [hb8, hb9, hx, hxo, hbb, hlt, hok, hbn]⟩) (fun g2 => ?_)
      refine AW.drw 11 [[], [], [1], [], [], [3, 4], [3, 4, 5], [1, 2, 3, 4, 5, 6], [1, 2, 3, 4, 5, 6, 7], [1, 2, 3, 4, 5, 6, 7, 8], [1, 2, 3, 4, 5, 6, 7, 8, 9], [0, 1, 2, 3, 4, 5, 6, 7, 8, 9, 10], [0, 1, 2, 3, 4, 5, 6, 7, 8, 9, 10, 11]] [30, 31, 32, 33, 34, 35, 36, 37, 38, 39, 40] [.fz ((nextOf b.term).map intRow)] [] f_mix (by decide) (by rfl) (by rfl) rfl rfl (by simp -implicitDefEqProofs only [go_sem, hb8, hb9, hx, hxo, hbb, hlt, hok, hbn]; rfl) (ob1 ((fun71 b.term).obf)) (by simp -implicitDefEqProofs only [go_sem, hb8, hb9, hx, hxo, hbb, hlt, hok, hbn]; rfl) (by trivial) ?_
      show AW _ _ _ _ _
      refine AW.run [] (by simp -implicitDefEqProofs only [go_sem, hb8, hb9, hx, hxo, hbb, hlt, hok, hbn]; rfl) (by trivial) ?_
      have hs := hinv.new ht hlt hx (by rw [hxo, ht23]) hbt
      exact ⟨(idO, g2, l ++ nextOf b.term, out.set k true, i + 1, m - 1), hs.1, hs.2, ⟨by simp -implicitDefEqProofs only [go_sem], by simp -implicitDefEqProofs only [go_sem, hb8, hb9, hx, hxo, hbb, hlt, hok, hbn, hstep]; try simp [hb8, hb9, hx, hxo, hbb, hlt, hok, hbn, hstep]⟩⟩
  · have hd := hinv.done (ge_dec ht14)
    refine AW.exit ?_
    show AW _ _ _ _ _
    refine AW.runs [] (by simp -implicitDefEqProofs only [go_sem, hb8, hb9]; rfl) (by trivial) ?_
    exact AW.ret ⟨.inl rfl, _, rfl, by simp [go_sem, hd]⟩
end Go.Proofs.Ytgoajlgkbcongaa.Vm
end
section
set_option linter.unusedVariables false
set_option linter.unusedSimpArgs false
set_option maxRecDepth 100000
namespace Go.Proofs.Ytgoajlgkbcongaa.Vm
open Go Go.RowKit Go.Proofs
def cellRow (v : AV) : List AV := [v]
theorem fold_cell (l : List AV) : l.map (fun v => [v]) = l.map cellRow := rfl
theorem set_cell (l : List AV) (k : Nat) (u : AV) : setCell (l.map cellRow) k 0 u = (l.set k u).map cellRow := modify_map _ _ _ _ _ fun _ => rfl
theorem cellRow_0 (v : AV) : cellRow v = [v] := rfl
theorem repl_nil (n : Nat) : List.replicate n [AV.nil] = (List.replicate n AV.nil).map cellRow := by simp [cellRow]
theorem snoc_int (l : List Int) (n : Int) : l.map intRow ++ [[AV.int .i64 n]] = (l ++ [n]).map intRow := by simp [intRow]
theorem flat_int (l : List Int) : flatRows (l.map intRow) = true := by simp [flatRows, intRow, AV.flat]
theorem flat_bool (l : List Bool) : flatRows (l.map boolRow) = true := by simp [flatRows, boolRow, AV.flat]
theorem flat_one (v : AV) : flatRows [[v]] = v.flat := by simp [flatRows]
theorem flat_i (k : IntKind) (n : Int) : (AV.int k n).flat = true := rfl
theorem flat_b (b : Bool) : (AV.bool b).flat = true := rfl
theorem flat_a (vs : List AV) : (AV.agg vs).flat = false := rfl
theorem gset {α : Type} {l : List α} {k : Nat} {u : α} (h : k < l.length) : (l.set k u)[k]? = some u := by simp [h]
attribute [go_sem] gset List.length_set flat_int flat_bool flat_one flat_i flat_b flat_a fold_cell set_cell cellRow_0 repl_nil snoc_int List.set_set List.nil_append
/-- Cells of rows of numbers. -/
def CellsI (cs : List AV) (ws : List (List Int)) : Prop := cs.length = ws.length ∧ ∀ (k : Nat) (c : AV) (w : List Int), cs[k]? = some c → ws[k]? = some w → (c = .nil ∧ w = []) ∨ ∃ id, c = .own id 1 (w.map intRow)
theorem CellsI.at {cs : List AV} {ws : List (List Int)} (h : CellsI cs ws) {k : Nat} (hk : k < ws.length) : ∃ c w, cs[k]? = some c ∧ ws[k]? = some w ∧ ((c = .nil ∧ w = []) ∨ ∃ id, c = .own id 1 (w.map intRow)) := by
  obtain ⟨w, hw⟩ := get_of_lt hk
  obtain ⟨c, hc⟩ := get_of_lt (h.1 ▸ hk : k < cs.length)
  exact ⟨c, w, hc, hw, h.2 k c w hc hw⟩
theorem CellsI.set {cs : List AV} {ws : List (List Int)} (h : CellsI cs ws) {k : Nat} {id : Nat} {w : List Int} : CellsI (cs.set k (AV.own id 1 (w.map intRow))) (ws.set k w) := by
  refine ⟨by simp [h.1], fun j c v hc hv => ?_⟩
  rw [List.getElem?_set] at hc hv
  by_cases e : k = j
  · subst e
    rw [if_pos rfl] at hc hv
    by_cases hl : k < cs.length
    · rw [if_pos hl] at hc
      rw [if_pos (h.1 ▸ hl)] at hv
      cases hc; cases hv
      exact .inr ⟨id, rfl⟩
    · rw [if_neg hl] at hc; cases hc
  · rw [if_neg e] at hc hv
    exact h.2 j c v hc hv
theorem CellsI.zero (n : Nat) : CellsI (List.replicate n .nil) (List.replicate n []) := by
  refine ⟨by simp, fun k c w hc hw => ?_⟩
  rw [List.getElem?_replicate] at hc hw
  split at hc
  · rename_i h
    rw [if_pos h] at hw
    cases hc; cases hw
    exact .inl ⟨rfl, rfl⟩
  · cases hc
def intsRow (w : List Int) : List AV := [.fz (w.map intRow)]
attribute [go_sem] intsRow
theorem CellsI.frz {cs : List AV} {ws : List (List Int)} (h : CellsI cs ws) : AV.fz (cs.map fun x => [x.frz]) = .fz (ws.map intsRow) := by
  refine congrArg AV.fz (List.ext_getElem? fun k => ?_)
  rw [List.getElem?_map, List.getElem?_map]
  cases hc : cs[k]? with
  | none =>
    have : ws[k]? = none := by rw [List.getElem?_eq_none_iff] at hc ⊢; rw [← h.1]; exact hc
    rw [this]; rfl
  | some c =>
    obtain ⟨w, hw⟩ : ∃ w, ws[k]? = some w := get_of_lt (h.1 ▸ (List.getElem?_eq_some_iff.1 hc).1)
    rw [hw]
    rcases h.2 k c w hc hw with ⟨rfl, rfl⟩ | ⟨i, rfl⟩
    · simp [intsRow, AV.frz]
    · simp [intsRow, frz_ints]
/-- From which blocks the ways come. -/
def addWay (i : Nat) (out : List (List Int)) (k : Int) : List (List Int) := out.set k.toNat ((out[k.toNat]?).getD [] ++ [(i : Int)])
def waysTo (ts : List Term) : Nat → List (List Int)
  | 0 => List.replicate ts.length []
  | i + 1 => ((ts[i]?).elim [] nextOf).foldl (addWay i) (waysTo ts i)
def waysOf (ts : List Term) : List (List Int) := waysTo ts ts.length
theorem foldl_take {α β : Type} (f : β → α → β) (b : β) {l : List α} {j : Nat} {x : α} (h : l[j]? = some x) : (l.take (j + 1)).foldl f b = f ((l.take j).foldl f b) x := by
  rw [List.take_add_one, h, List.foldl_append]; rfl
theorem addWay_len (i : Nat) (out : List (List Int)) (k : Int) : (addWay i out k).length = out.length := by simp [addWay]
theorem foldWay_len (i : Nat) : ∀ (ks : List Int) (out : List (List Int)), (ks.foldl (addWay i) out).length = out.length
  | [], out => rfl
  | k :: ks, out => by rw [List.foldl_cons, foldWay_len i ks, addWay_len]
theorem waysTo_len (ts : List Term) : ∀ i, (waysTo ts i).length = ts.length
  | 0 => by simp [waysTo]
  | i + 1 => by rw [waysTo, foldWay_len, waysTo_len ts i]
theorem waysOf_len (ts : List Term) : (waysOf ts).length = ts.length := waysTo_len ts _
/-- How much has been told to one block. -/
theorem addWay_le {i : Nat} {out : List (List Int)} {k : Int} {b : Nat} (h : ∀ w ∈ out, w.length ≤ b) : ∀ w ∈ addWay i out k, w.length ≤ b + 1 := by
  intro w hw
  unfold addWay at hw
  rcases List.mem_or_eq_of_mem_set hw with h1 | h1
  · exact Nat.le_succ_of_le (h w h1)
  · subst h1
    cases hk : out[k.toNat]? with
    | none => simp
    | some v => have := h v (List.mem_of_getElem? hk); simp; omega
theorem foldWay_le {i : Nat} : ∀ (ks : List Int) {out : List (List Int)} {b : Nat}, (∀ w ∈ out, w.length ≤ b) → ∀ w ∈ ks.foldl (addWay i) out, w.length ≤ b + ks.length
  | [], out, b, h => h
  | k :: ks, out, b, h => by
    have := foldWay_le (i := i) ks (addWay_le (i := i) (k := k) h)
    intro w hw
    have := this w hw
    simp only [List.length_cons]
    omega
theorem waysTo_le (ts : List Term) : ∀ i, ∀ w ∈ waysTo ts i, w.length ≤ 2 * i
  | 0 => fun w hw => by have := List.eq_of_mem_replicate hw; simp [this]
  | i + 1 => fun w hw => by
    rw [waysTo] at hw
    have := foldWay_le _ (waysTo_le ts i) w hw
    have h2 : ((ts[i]?).elim [] nextOf).length ≤ 2 := by
      cases ts[i]? with
      | none => simp
      | some t => exact next_len t
    omega
theorem fun42 (f : Fn) (h1 : f.blocks.length ≤ 1048576) (ht : Targets (termsOf f)) : Fun Try.prog 42 [.agg (fnRow f)] (fun r => r.frz = .fz ((waysOf (termsOf f)).map intsRow)) := by
  refine Fun.ok Try.func42 rfl (by rfl) 48 Try.ntmps42 (by rfl) fun hok K g0 => ?_
  simp -implicitDefEqProofs only [go_sem]
  have hts : (termsOf f).length = f.blocks.length := by simp [termsOf]
  have hb8 : 24 * f.blocks.length ≤ 281474976710656 := by omega
  have hb9 : f.blocks.length ≤ 9223372036854775807 := by omega
  refine AW.runs [] (by simp -implicitDefEqProofs only [go_sem, hb8, hb9]; rfl) (by trivial) ?_
  refine AW.runs [] (by simp -implicitDefEqProofs only [go_sem, hb8, hb9]; rfl) (by trivial) ?_
  refine AW.seq ?_
  refine AW.runs [] (by simp -implicitDefEqProofs only [go_sem, hb8, hb9]; rfl) (by trivial) ?_
  refine AW.block ?_
  refine AW.forH (X := Nat × List AV) (f.blocks.length) (fun i x => [(1, .box g0 (fnRow f)), (3, AV.own x.1 1 (x.2.map cellRow)), (4, .int .i64 i)]) (fun i x => CellsI x.2 (waysTo (termsOf f) i)) 48 ⟨(g0 + 1, List.replicate f.blocks.length .nil), by rw [waysTo, hts]; exact CellsI.zero _, ⟨by simp -implicitDefEqProofs only [go_sem], by simp -implicitDefEqProofs only [go_sem, hb8, hb9]; try simp [hb8, hb9]⟩⟩ fun i x g1 hii hinvi => ?_
  obtain ⟨id, cs⟩ := x
  simp only at hinvi ⊢
  refine AW.seq ?_
  refine AW.runs [] (by simp -implicitDefEqProofs only [go_sem, hb8, hb9]; rfl) (by trivial) ?_
  refine AW.if (by simp -implicitDefEqProofs only [go_sem, hb8, hb9]; rfl) (fun ht15 => ?_) (fun ht15 => ?_)
  · have hlti : i < f.blocks.length := lt_dec ht15
    obtain ⟨b, hbb⟩ := get_of_lt hlti
    have hbt : (termsOf f)[i]? = some b.term := map_get _ hbb
    have hnl := next_len b.term
    refine AW.skip ?_
    show AW _ _ _ _ _
    refine AW.seq ?_
    refine AW.block ?_
    refine AW.runs [.fz ((nextOf b.term).map intRow)] (by simp -implicitDefEqProofs only [go_sem, hb8, hb9, hbb]; rfl) (ob1 ((fun71 b.term).obf)) ?_
    refine AW.runs [] (by simp -implicitDefEqProofs only [go_sem, hb8, hb9, hbb]; rfl) (by trivial) ?_
    refine AW.block ?_
    refine AW.forH (X := Nat × List AV) ((nextOf b.term).length) (fun j x => [(1, .box g0 (fnRow f)), (3, AV.own x.1 1 (x.2.map cellRow)), (4, .int .i64 i), (5, .fz ((nextOf b.term).map intRow)), (6, .int .i64 j)]) (fun j x => CellsI x.2 (((nextOf b.term).take j).foldl (addWay i) (waysTo (termsOf f) i))) 48 ⟨(id, cs), by simpa using hinvi, ⟨by simp -implicitDefEqProofs only [go_sem], by simp -implicitDefEqProofs only [go_sem, hb8, hb9, hbb]; try simp [hb8, hb9, hbb]⟩⟩ fun j x g2 hij hinvj => ?_
    obtain ⟨id, cs⟩ := x
    simp only at hinvj ⊢
    refine AW.seq ?_
    refine AW.runs [] (by simp -implicitDefEqProofs only [go_sem, hb8, hb9, hbb]; rfl) (by trivial) ?_
    refine AW.if (by simp -implicitDefEqProofs only [go_sem, hb8, hb9, hbb]; rfl) (fun ht28 => ?_) (fun ht28 => ?_)
    · have hltj : j < (nextOf b.term).length := lt_dec ht28
      obtain ⟨kz, hkx⟩ := get_of_lt hltj
      obtain ⟨hk0, hk1⟩ := ht b.term (List.mem_of_getElem? hbt) kz (List.mem_of_getElem? hkx)
      obtain ⟨k, rfl⟩ := Int.eq_ofNat_of_zero_le hk0
      have hk : k < (termsOf f).length := by omega
      obtain ⟨c, w, hc, hw, hcw⟩ := hinvj.at (k := k) (by rw [foldWay_len, waysTo_len]; exact hk)
      have hkc : k < cs.length := (List.getElem?_eq_some_iff.1 hc).1
      have hwl := foldWay_le _ (waysTo_le (termsOf f) i) w (List.mem_of_getElem? hw)
      rw [List.length_take] at hwl
      refine AW.skip ?_
      show AW _ _ _ _ _
      refine AW.seq ?_
      refine AW.block ?_
      rcases hcw with ⟨rfl, rfl⟩ | ⟨idc, rfl⟩
      · refine AW.has (n := 48) [(1, .box g0 (fnRow f)), (3, AV.own id 1 (cs.map cellRow)), (4, .int .i64 i), (5, .fz ((nextOf b.term).map intRow)), (6, .int .i64 j)] (⟨by simp -implicitDefEqProofs only [go_sem], by simp -implicitDefEqProofs only [go_sem, hb8, hb9, hbb, hkx, hc, hkc]; try simp [hb8, hb9, hbb, hkx, hc, hkc]⟩) (fun g3 => ?_)
        refine AW.drw2 [0, 1, 2, 3, 4, 5, 6, 7, 8, 9, 10, 11, 12] [13, 14, 15, 16] [[], [], [], [1, 2], [1, 2, 3], [], [], [], [6, 7], [6, 7, 8], [5, 6, 7, 8, 9], [5, 6, 7, 8, 9, 10], [], [12], [5, 6, 7, 8, 9, 10, 11, 12, 13], [0, 1, 2, 3, 4, 5, 6, 7, 8, 9, 10, 11, 12, 13, 14], [0, 1, 2, 3, 4, 5, 6, 7, 8, 9, 10, 11, 12, 13, 14, 15]] [31, 32, 33, 34, 35, 36, 37, 38, 39, 40, 41, 42, 43] [?v0_0, ?v0_1, ?v0_2, ?v0_3, ?v0_4, ?v0_5, ?v0_6, ?v0_7, ?v0_8, ?v0_9, ?v0_10, ?v0_11, ?v0_12] [([(1, .box g0 (fnRow f)), (3, AV.own id 1 (cs.map cellRow)), (4, .int .i64 i), (5, .fz ((nextOf b.term).map intRow)), (6, .int .i64 j)], g3), ([(1, .box g0 (fnRow f)), (3, AV.own id 1 (cs.map cellRow)), (4, .int .i64 i), (5, .fz ((nextOf b.term).map intRow)), (6, .int .i64 j), (44, AV.own g3 1 [[AV.int .i64 (i : Int)]])], g3 + 1), ([(1, .box g0 (fnRow f)), (3, AV.own id 1 (cs.map cellRow)), (4, .int .i64 i), (5, .fz ((nextOf b.term).map intRow)), (6, .int .i64 j), (44, AV.own g3 1 [[AV.int .i64 (i : Int)]]), (45, AV.own (g3 + 1) 1 [[AV.int .i64 (i : Int)]])], g3 + 2), ([(1, .box g0 (fnRow f)), (3, AV.own id 1 (cs.map cellRow)), (4, .int .i64 i), (5, .fz ((nextOf b.term).map intRow)), (6, .int .i64 j), (44, AV.own g3 1 [[AV.int .i64 (i : Int)]]), (45, AV.own (g3 + 1) 1 [[AV.int .i64 (i : Int)]]), (46, AV.adr (3, []) id 1 k 0)], g3 + 2), ([(1, .box g0 (fnRow f)), (3, AV.own id 1 ((cs.set k (AV.own ((g3 + 1)) 1 [[AV.int .i64 (i : Int)]])).map cellRow)), (4, .int .i64 i), (5, .fz ((nextOf b.term).map intRow)), (6, .int .i64 j)], g3 + 2)] f_mix (by decide) (by rfl) (by rfl) (by rfl) [(0, 0), (0, 1), (0, 2), (0, 3), (0, 4), (0, 5), (0, 6), (0, 7), (0, 8), (0, 9), (0, 10), (0, 11), (0, 12), (1, 0), (1, 1), (1, 2), (1, 3), (1, 4), (1, 5), (1, 6), (1, 7), (1, 8), (1, 9), (1, 10), (1, 11), (2, 0), (2, 1), (2, 2), (2, 3), (2, 4)] (by rfl) ?_ ?_ ?_
        rotate_left 13
        · refine fa_cons ?_ ?_
          · show HeadAt Try.prog _ ((Fr.of [(1, .box g0 (fnRow f)), (3, AV.own id 1 (cs.map cellRow)), (4, .int .i64 i), (5, .fz ((nextOf b.term).map intRow)), (6, .int .i64 j)] (g3) 48).see [31, 32, 33, 34, 35, 36, 37, 38, 39, 40, 41, 42, 43] [?v0_0, ?v0_1, ?v0_2, ?v0_3, ?v0_4, ?v0_5, ?v0_6, ?v0_7, ?v0_8, ?v0_9, ?v0_10, ?v0_11, ?v0_12] []) 0 ?v0_0
            exact headX rfl rfl (by simp -implicitDefEqProofs only [go_sem, hb8, hb9, hbb, hkx, hc, hkc]; rfl)
          refine fa_cons ?_ ?_
          · show HeadAt Try.prog _ ((Fr.of [(1, .box g0 (fnRow f)), (3, AV.own id 1 (cs.map cellRow)), (4, .int .i64 i), (5, .fz ((nextOf b.term).map intRow)), (6, .int .i64 j)] (g3) 48).see [31, 32, 33, 34, 35, 36, 37, 38, 39, 40, 41, 42, 43] [?v0_0, ?v0_1, ?v0_2, ?v0_3, ?v0_4, ?v0_5, ?v0_6, ?v0_7, ?v0_8, ?v0_9, ?v0_10, ?v0_11, ?v0_12] []) 1 ?v0_1
            exact headX rfl rfl (by simp -implicitDefEqProofs only [go_sem, hb8, hb9, hbb, hkx, hc, hkc]; rfl)
          refine fa_cons ?_ ?_
          · show HeadAt Try.prog _ ((Fr.of [(1, .box g0 (fnRow f)), (3, AV.own id 1 (cs.map cellRow)), (4, .int .i64 i), (5, .fz ((nextOf b.term).map intRow)), (6, .int .i64 j)] (g3) 48).see [31, 32, 33, 34, 35, 36, 37, 38, 39, 40, 41, 42, 43] [?v0_0, ?v0_1, ?v0_2, ?v0_3, ?v0_4, ?v0_5, ?v0_6, ?v0_7, ?v0_8, ?v0_9, ?v0_10, ?v0_11, ?v0_12] []) 2 ?v0_2
            exact headX rfl rfl (by simp -implicitDefEqProofs only [go_sem, hb8, hb9, hbb, hkx, hc, hkc]; rfl)
          refine fa_cons ?_ ?_
          · show HeadAt Try.prog _ ((Fr.of [(1, .box g0 (fnRow f)), (3, AV.own id 1 (cs.map cellRow)), (4, .int .i64 i), (5, .fz ((nextOf b.term).map intRow)), (6, .int .i64 j)] (g3) 48).see [31, 32, 33, 34, 35, 36, 37, 38, 39, 40, 41, 42, 43] [?v0_0, ?v0_1, ?v0_2, ?v0_3, ?v0_4, ?v0_5, ?v0_6, ?v0_7, ?v0_8, ?v0_9, ?v0_10, ?v0_11, ?v0_12] [1, 2]) 3 ?v0_3
            exact headX rfl rfl (by simp -implicitDefEqProofs only [go_sem, hb8, hb9, hbb, hkx, hc, hkc]; rfl)
          refine fa_cons ?_ ?_
          · show HeadAt Try.prog _ ((Fr.of [(1, .box g0 (fnRow f)), (3, AV.own id 1 (cs.map cellRow)), (4, .int .i64 i), (5, .fz ((nextOf b.term).map intRow)), (6, .int .i64 j)] (g3) 48).see [31, 32, 33, 34, 35, 36, 37, 38, 39, 40, 41, 42, 43] [?v0_0, ?v0_1, ?v0_2, ?v0_3, ?v0_4, ?v0_5, ?v0_6, ?v0_7, ?v0_8, ?v0_9, ?v0_10, ?v0_11, ?v0_12] [1, 2, 3]) 4 ?v0_4
            exact headX rfl rfl (by simp -implicitDefEqProofs only [go_sem, hb8, hb9, hbb, hkx, hc, hkc]; rfl)
          refine fa_cons ?_ ?_
          · show HeadAt Try.prog _ ((Fr.of [(1, .box g0 (fnRow f)), (3, AV.own id 1 (cs.map cellRow)), (4, .int .i64 i), (5, .fz ((nextOf b.term).map intRow)), (6, .int .i64 j)] (g3) 48).see [31, 32, 33, 34, 35, 36, 37, 38, 39, 40, 41, 42, 43] [?v0_0, ?v0_1, ?v0_2, ?v0_3, ?v0_4, ?v0_5, ?v0_6, ?v0_7, ?v0_8, ?v0_9, ?v0_10, ?v0_11, ?v0_12] []) 5 ?v0_5
            exact headX rfl rfl (by simp -implicitDefEqProofs only [go_sem, hb8, hb9, hbb, hkx, hc, hkc]; rfl)
          refine fa_cons ?_ ?_
          · show HeadAt Try.prog _ ((Fr.of [(1, .box g0 (fnRow f)), (3, AV.own id 1 (cs.map cellRow)), (4, .int .i64 i), (5, .fz ((nextOf b.term).map intRow)), (6, .int .i64 j)] (g3) 48).see [31, 32, 33, 34, 35, 36, 37, 38, 39, 40, 41, 42, 43] [?v0_0, ?v0_1, ?v0_2, ?v0_3, ?v0_4, ?v0_5, ?v0_6, ?v0_7, ?v0_8, ?v0_9, ?v0_10, ?v0_11, ?v0_12] []) 6 ?v0_6
            exact headX rfl rfl (by simp -implicitDefEqProofs only [go_sem, hb8, hb9, hbb, hkx, hc, hkc]; rfl)
          refine fa_cons ?_ ?_
          · show HeadAt Try.prog _ ((Fr.of [(1, .box g0 (fnRow f)), (3, AV.own id 1 (cs.map cellRow)), (4, .int .i64 i), (5, .fz ((nextOf b.term).map intRow)), (6, .int .i64 j)] (g3) 48).see [31, 32, 33, 34, 35, 36, 37, 38, 39, 40, 41, 42, 43] [?v0_0, ?v0_1, ?v0_2, ?v0_3, ?v0_4, ?v0_5, ?v0_6, ?v0_7, ?v0_8, ?v0_9, ?v0_10, ?v0_11, ?v0_12] []) 7 ?v0_7
            exact headX rfl rfl (by simp -implicitDefEqProofs only [go_sem, hb8, hb9, hbb, hkx, hc, hkc]; rfl)
          refine fa_cons ?_ ?_
          · show HeadAt Try.prog _ ((Fr.of [(1, .box g0 (fnRow f)), (3, AV.own id 1 (cs.map cellRow)), (4, .int .i64 i), (5, .fz ((nextOf b.term).map intRow)), (6, .int .i64 j)] (g3) 48).see [31, 32, 33, 34, 35, 36, 37, 38, 39, 40, 41, 42, 43] [?v0_0, ?v0_1, ?v0_2, ?v0_3, ?v0_4, ?v0_5, ?v0_6, ?v0_7, ?v0_8, ?v0_9, ?v0_10, ?v0_11, ?v0_12] [6, 7]) 8 ?v0_8
            exact headX rfl rfl (by simp -implicitDefEqProofs only [go_sem, hb8, hb9, hbb, hkx, hc, hkc]; rfl)
          refine fa_cons ?_ ?_
          · show HeadAt Try.prog _ ((Fr.of [(1, .box g0 (fnRow f)), (3, AV.own id 1 (cs.map cellRow)), (4, .int .i64 i), (5, .fz ((nextOf b.term).map intRow)), (6, .int .i64 j)] (g3) 48).see [31, 32, 33, 34, 35, 36, 37, 38, 39, 40, 41, 42, 43] [?v0_0, ?v0_1, ?v0_2, ?v0_3, ?v0_4, ?v0_5, ?v0_6, ?v0_7, ?v0_8, ?v0_9, ?v0_10, ?v0_11, ?v0_12] [6, 7, 8]) 9 ?v0_9
            exact headX rfl rfl (by simp -implicitDefEqProofs only [go_sem, hb8, hb9, hbb, hkx, hc, hkc]; rfl)
          refine fa_cons ?_ ?_
          · show HeadAt Try.prog _ ((Fr.of [(1, .box g0 (fnRow f)), (3, AV.own id 1 (cs.map cellRow)), (4, .int .i64 i), (5, .fz ((nextOf b.term).map intRow)), (6, .int .i64 j)] (g3) 48).see [31, 32, 33, 34, 35, 36, 37, 38, 39, 40, 41, 42, 43] [?v0_0, ?v0_1, ?v0_2, ?v0_3, ?v0_4, ?v0_5, ?v0_6, ?v0_7, ?v0_8, ?v0_9, ?v0_10, ?v0_11, ?v0_12] [5, 6, 7, 8, 9]) 10 ?v0_10
            exact headX rfl rfl (by simp -implicitDefEqProofs only [go_sem, hb8, hb9, hbb, hkx, hc, hkc]; rfl)
          refine fa_cons ?_ ?_
          · show HeadAt Try.prog _ ((Fr.of [(1, .box g0 (fnRow f)), (3, AV.own id 1 (cs.map cellRow)), (4, .int .i64 i), (5, .fz ((nextOf b.term).map intRow)), (6, .int .i64 j)] (g3) 48).see [31, 32, 33, 34, 35, 36, 37, 38, 39, 40, 41, 42, 43] [?v0_0, ?v0_1, ?v0_2, ?v0_3, ?v0_4, ?v0_5, ?v0_6, ?v0_7, ?v0_8, ?v0_9, ?v0_10, ?v0_11, ?v0_12] [5, 6, 7, 8, 9, 10]) 11 ?v0_11
            exact headX rfl rfl (by simp -implicitDefEqProofs only [go_sem, hb8, hb9, hbb, hkx, hc, hkc]; rfl)
          refine fa_cons ?_ ?_
          · show HeadAt Try.prog _ ((Fr.of [(1, .box g0 (fnRow f)), (3, AV.own id 1 (cs.map cellRow)), (4, .int .i64 i), (5, .fz ((nextOf b.term).map intRow)), (6, .int .i64 j)] (g3) 48).see [31, 32, 33, 34, 35, 36, 37, 38, 39, 40, 41, 42, 43] [?v0_0, ?v0_1, ?v0_2, ?v0_3, ?v0_4, ?v0_5, ?v0_6, ?v0_7, ?v0_8, ?v0_9, ?v0_10, ?v0_11, ?v0_12] []) 12 ?v0_12
            exact headX rfl rfl (by simp -implicitDefEqProofs only [go_sem, hb8, hb9, hbb, hkx, hc, hkc]; rfl)
          refine fa_cons ?_ ?_
          · show HeadAt Try.prog _ ((Fr.of [(1, .box g0 (fnRow f)), (3, AV.own id 1 (cs.map cellRow)), (4, .int .i64 i), (5, .fz ((nextOf b.term).map intRow)), (6, .int .i64 j), (44, AV.own g3 1 [[AV.int .i64 (i : Int)]])] (g3 + 1) 48).see [31, 32, 33, 34, 35, 36, 37, 38, 39, 40, 41, 42, 43] [?v0_0, ?v0_1, ?v0_2, ?v0_3, ?v0_4, ?v0_5, ?v0_6, ?v0_7, ?v0_8, ?v0_9, ?v0_10, ?v0_11, ?v0_12] []) 0 ?v0_0
            exact headX rfl rfl (by simp -implicitDefEqProofs only [go_sem, hb8, hb9, hbb, hkx, hc, hkc])
          refine fa_cons ?_ ?_
          · show HeadAt Try.prog _ ((Fr.of [(1, .box g0 (fnRow f)), (3, AV.own id 1 (cs.map cellRow)), (4, .int .i64 i), (5, .fz ((nextOf b.term).map intRow)), (6, .int .i64 j), (44, AV.own g3 1 [[AV.int .i64 (i : Int)]])] (g3 + 1) 48).see [31, 32, 33, 34, 35, 36, 37, 38, 39, 40, 41, 42, 43] [?v0_0, ?v0_1, ?v0_2, ?v0_3, ?v0_4, ?v0_5, ?v0_6, ?v0_7, ?v0_8, ?v0_9, ?v0_10, ?v0_11, ?v0_12] []) 1 ?v0_1
            exact headX rfl rfl (by simp -implicitDefEqProofs only [go_sem, hb8, hb9, hbb, hkx, hc, hkc])
          refine fa_cons ?_ ?_
          · show HeadAt Try.prog _ ((Fr.of [(1, .box g0 (fnRow f)), (3, AV.own id 1 (cs.map cellRow)), (4, .int .i64 i), (5, .fz ((nextOf b.term).map intRow)), (6, .int .i64 j), (44, AV.own g3 1 [[AV.int .i64 (i : Int)]])] (g3 + 1) 48).see [31, 32, 33, 34, 35, 36, 37, 38, 39, 40, 41, 42, 43] [?v0_0, ?v0_1, ?v0_2, ?v0_3, ?v0_4, ?v0_5, ?v0_6, ?v0_7, ?v0_8, ?v0_9, ?v0_10, ?v0_11, ?v0_12] []) 2 ?v0_2
            exact headX rfl rfl (by simp -implicitDefEqProofs only [go_sem, hb8, hb9, hbb, hkx, hc, hkc])
          refine fa_cons ?_ ?_
          · show HeadAt Try.prog _ ((Fr.of [(1, .box g0 (fnRow f)), (3, AV.own id 1 (cs.map cellRow)), (4, .int .i64 i), (5, .fz ((nextOf b.term).map intRow)), (6, .int .i64 j), (44, AV.own g3 1 [[AV.int .i64 (i : Int)]])] (g3 + 1) 48).see [31, 32, 33, 34, 35, 36, 37, 38, 39, 40, 41, 42, 43] [?v0_0, ?v0_1, ?v0_2, ?v0_3, ?v0_4, ?v0_5, ?v0_6, ?v0_7, ?v0_8, ?v0_9, ?v0_10, ?v0_11, ?v0_12] [1, 2]) 3 ?v0_3
            exact headX rfl rfl (by simp -implicitDefEqProofs only [go_sem, hb8, hb9, hbb, hkx, hc, hkc])
          refine fa_cons ?_ ?_
          · show HeadAt Try.prog _ ((Fr.of [(1, .box g0 (fnRow f)), (3, AV.own id 1 (cs.map cellRow)), (4, .int .i64 i), (5, .fz ((nextOf b.term).map intRow)), (6, .int .i64 j), (44, AV.own g3 1 [[AV.int .i64 (i : Int)]])] (g3 + 1) 48).see [31, 32, 33, 34, 35, 36, 37, 38, 39, 40, 41, 42, 43] [?v0_0, ?v0_1, ?v0_2, ?v0_3, ?v0_4, ?v0_5, ?v0_6, ?v0_7, ?v0_8, ?v0_9, ?v0_10, ?v0_11, ?v0_12] [1, 2, 3]) 4 ?v0_4
            exact headX rfl rfl (by simp -implicitDefEqProofs only [go_sem, hb8, hb9, hbb, hkx, hc, hkc])
          refine fa_cons ?_ ?_
          · show HeadAt Try.prog _ ((Fr.of [(1, .box g0 (fnRow f)), (3, AV.own id 1 (cs.map cellRow)), (4, .int .i64 i), (5, .fz ((nextOf b.term).map intRow)), (6, .int .i64 j), (44, AV.own g3 1 [[AV.int .i64 (i : Int)]])] (g3 + 1) 48).see [31, 32, 33, 34, 35, 36, 37, 38, 39, 40, 41, 42, 43] [?v0_0, ?v0_1, ?v0_2, ?v0_3, ?v0_4, ?v0_5, ?v0_6, ?v0_7, ?v0_8, ?v0_9, ?v0_10, ?v0_11, ?v0_12] []) 5 ?v0_5
            exact headX rfl rfl (by simp -implicitDefEqProofs only [go_sem, hb8, hb9, hbb, hkx, hc, hkc])
          refine fa_cons ?_ ?_
          · show HeadAt Try.prog _ ((Fr.of [(1, .box g0 (fnRow f)), (3, AV.own id 1 (cs.map cellRow)), (4, .int .i64 i), (5, .fz ((nextOf b.term).map intRow)), (6, .int .i64 j), (44, AV.own g3 1 [[AV.int .i64 (i : Int)]])] (g3 + 1) 48).see [31, 32, 33, 34, 35, 36, 37, 38, 39, 40, 41, 42, 43] [?v0_0, ?v0_1, ?v0_2, ?v0_3, ?v0_4, ?v0_5, ?v0_6, ?v0_7, ?v0_8, ?v0_9, ?v0_10, ?v0_11, ?v0_12] []) 6 ?v0_6
            exact headX rfl rfl (by simp -implicitDefEqProofs only [go_sem, hb8, hb9, hbb, hkx, hc, hkc])
          refine fa_cons ?_ ?_
          · show HeadAt Try.prog _ ((Fr.of [(1, .box g0 (fnRow f)), (3, AV.own id 1 (cs.map cellRow)), (4, .int .i64 i), (5, .fz ((nextOf b.term).map intRow)), (6, .int .i64 j), (44, AV.own g3 1 [[AV.int .i64 (i : Int)]])] (g3 + 1) 48).see [31, 32, 33, 34, 35, 36, 37, 38, 39, 40, 41, 42, 43] [?v0_0, ?v0_1, ?v0_2, ?v0_3, ?v0_4, ?v0_5, ?v0_6, ?v0_7, ?v0_8, ?v0_9, ?v0_10, ?v0_11, ?v0_12] []) 7 ?v0_7
            exact headX rfl rfl (by simp -implicitDefEqProofs only [go_sem, hb8, hb9, hbb, hkx, hc, hkc])
          refine fa_cons ?_ ?_
          · show HeadAt Try.prog _ ((Fr.of [(1, .box g0 (fnRow f)), (3, AV.own id 1 (cs.map cellRow)), (4, .int .i64 i), (5, .fz ((nextOf b.term).map intRow)), (6, .int .i64 j), (44, AV.own g3 1 [[AV.int .i64 (i : Int)]])] (g3 + 1) 48).see [31, 32, 33, 34, 35, 36, 37, 38, 39, 40, 41, 42, 43] [?v0_0, ?v0_1, ?v0_2, ?v0_3, ?v0_4, ?v0_5, ?v0_6, ?v0_7, ?v0_8, ?v0_9, ?v0_10, ?v0_11, ?v0_12] [6, 7]) 8 ?v0_8
            exact headX rfl rfl (by simp -implicitDefEqProofs only [go_sem, hb8, hb9, hbb, hkx, hc, hkc])
          refine fa_cons ?_ ?_
          · show HeadAt Try.prog _ ((Fr.of [(1, .box g0 (fnRow f)), (3, AV.own id 1 (cs.map cellRow)), (4, .int .i64 i), (5, .fz ((nextOf b.term).map intRow)), (6, .int .i64 j), (44, AV.own g3 1 [[AV.int .i64 (i : Int)]])] (g3 + 1) 48).see [31, 32, 33, 34, 35, 36, 37, 38, 39, 40, 41, 42, 43] [?v0_0, ?v0_1, ?v0_2, ?v0_3, ?v0_4, ?v0_5, ?v0_6, ?v0_7, ?v0_8, ?v0_9, ?v0_10, ?v0_11, ?v0_12] [6, 7, 8]) 9 ?v0_9
            exact headX rfl rfl (by simp -implicitDefEqProofs only [go_sem, hb8, hb9, hbb, hkx, hc, hkc])
          refine fa_cons ?_ ?_
          · show HeadAt Try.prog _ ((Fr.of [(1, .box g0 (fnRow f)), (3, AV.own id 1 (cs.map cellRow)), (4, .int .i64 i), (5, .fz ((nextOf b.term).map intRow)), (6, .int .i64 j), (44, AV.own g3 1 [[AV.int .i64 (i : Int)]])] (g3 + 1) 48).see [31, 32, 33, 34, 35, 36, 37, 38, 39, 40, 41, 42, 43] [?v0_0, ?v0_1, ?v0_2, ?v0_3, ?v0_4, ?v0_5, ?v0_6, ?v0_7, ?v0_8, ?v0_9, ?v0_10, ?v0_11, ?v0_12] [5, 6, 7, 8, 9]) 10 ?v0_10
            exact headX rfl rfl (by simp -implicitDefEqProofs only [go_sem, hb8, hb9, hbb, hkx, hc, hkc])
          refine fa_cons ?_ ?_
          · show HeadAt Try.prog _ ((Fr.of [(1, .box g0 (fnRow f)), (3, AV.own id 1 (cs.map cellRow)), (4, .int .i64 i), (5, .fz ((nextOf b.term).map intRow)), (6, .int .i64 j), (44, AV.own g3 1 [[AV.int .i64 (i : Int)]])] (g3 + 1) 48).see [31, 32, 33, 34, 35, 36, 37, 38, 39, 40, 41, 42, 43] [?v0_0, ?v0_1, ?v0_2, ?v0_3, ?v0_4, ?v0_5, ?v0_6, ?v0_7, ?v0_8, ?v0_9, ?v0_10, ?v0_11, ?v0_12] [5, 6, 7, 8, 9, 10]) 11 ?v0_11
            exact headX rfl rfl (by simp -implicitDefEqProofs only [go_sem, hb8, hb9, hbb, hkx, hc, hkc])
          refine fa_cons ?_ ?_
          · show HeadAt Try.prog _ ((Fr.of [(1, .box g0 (fnRow f)), (3, AV.own id 1 (cs.map cellRow)), (4, .int .i64 i), (5, .fz ((nextOf b.term).map intRow)), (6, .int .i64 j), (44, AV.own g3 1 [[AV.int .i64 (i : Int)]]), (45, AV.own (g3 + 1) 1 [[AV.int .i64 (i : Int)]])] (g3 + 2) 48).see [31, 32, 33, 34, 35, 36, 37, 38, 39, 40, 41, 42, 43] [?v0_0, ?v0_1, ?v0_2, ?v0_3, ?v0_4, ?v0_5, ?v0_6, ?v0_7, ?v0_8, ?v0_9, ?v0_10, ?v0_11, ?v0_12] []) 0 ?v0_0
            exact headX rfl rfl (by simp -implicitDefEqProofs only [go_sem, hb8, hb9, hbb, hkx, hc, hkc])
          refine fa_cons ?_ ?_
          · show HeadAt Try.prog _ ((Fr.of [(1, .box g0 (fnRow f)), (3, AV.own id 1 (cs.map cellRow)), (4, .int .i64 i), (5, .fz ((nextOf b.term).map intRow)), (6, .int .i64 j), (44, AV.own g3 1 [[AV.int .i64 (i : Int)]]), (45, AV.own (g3 + 1) 1 [[AV.int .i64 (i : Int)]])] (g3 + 2) 48).see [31, 32, 33, 34, 35, 36, 37, 38, 39, 40, 41, 42, 43] [?v0_0, ?v0_1, ?v0_2, ?v0_3, ?v0_4, ?v0_5, ?v0_6, ?v0_7, ?v0_8, ?v0_9, ?v0_10, ?v0_11, ?v0_12] []) 1 ?v0_1
            exact headX rfl rfl (by simp -implicitDefEqProofs only [go_sem, hb8, hb9, hbb, hkx, hc, hkc])
          refine fa_cons ?_ ?_
          · show HeadAt Try.prog _ ((Fr.of [(1, .box g0 (fnRow f)), (3, AV.own id 1 (cs.map cellRow)), (4, .int .i64 i), (5, .fz ((nextOf b.term).map intRow)), (6, .int .i64 j), (44, AV.own g3 1 [[AV.int .i64 (i : Int)]]), (45, AV.own (g3 + 1) 1 [[AV.int .i64 (i : Int)]])] (g3 + 2) 48).see [31, 32, 33, 34, 35, 36, 37, 38, 39, 40, 41, 42, 43] [?v0_0, ?v0_1, ?v0_2, ?v0_3, ?v0_4, ?v0_5, ?v0_6, ?v0_7, ?v0_8, ?v0_9, ?v0_10, ?v0_11, ?v0_12] []) 2 ?v0_2
            exact headX rfl rfl (by simp -implicitDefEqProofs only [go_sem, hb8, hb9, hbb, hkx, hc, hkc])
          refine fa_cons ?_ ?_
          · show HeadAt Try.prog _ ((Fr.of [(1, .box g0 (fnRow f)), (3, AV.own id 1 (cs.map cellRow)), (4, .int .i64 i), (5, .fz ((nextOf b.term).map intRow)), (6, .int .i64 j), (44, AV.own g3 1 [[AV.int .i64 (i : Int)]]), (45, AV.own (g3 + 1) 1 [[AV.int .i64 (i : Int)]])] (g3 + 2) 48).see [31, 32, 33, 34, 35, 36, 37, 38, 39, 40, 41, 42, 43] [?v0_0, ?v0_1, ?v0_2, ?v0_3, ?v0_4, ?v0_5, ?v0_6, ?v0_7, ?v0_8, ?v0_9, ?v0_10, ?v0_11, ?v0_12] [1, 2]) 3 ?v0_3
            exact headX rfl rfl (by simp -implicitDefEqProofs only [go_sem, hb8, hb9, hbb, hkx, hc, hkc])
          refine fa_cons ?_ ?_
          · show HeadAt Try.prog _ ((Fr.of [(1, .box g0 (fnRow f)), (3, AV.own id 1 (cs.map cellRow)), (4, .int .i64 i), (5, .fz ((nextOf b.term).map intRow)), (6, .int .i64 j), (44, AV.own g3 1 [[AV.int .i64 (i : Int)]]), (45, AV.own (g3 + 1) 1 [[AV.int .i64 (i : Int)]])] (g3 + 2) 48).see [31, 32, 33, 34, 35, 36, 37, 38, 39, 40, 41, 42, 43] [?v0_0, ?v0_1, ?v0_2, ?v0_3, ?v0_4, ?v0_5, ?v0_6, ?v0_7, ?v0_8, ?v0_9, ?v0_10, ?v0_11, ?v0_12] [1, 2, 3]) 4 ?v0_4
            exact headX rfl rfl (by simp -implicitDefEqProofs only [go_sem, hb8, hb9, hbb, hkx, hc, hkc])
          exact fa_nil
        · refine fa_cons ?_ ?_
          · show ChainAt Try.prog K _ [31, 32, 33, 34, 35, 36, 37, 38, 39, 40, 41, 42, 43] (Fr.of [(1, .box g0 (fnRow f)), (3, AV.own id 1 (cs.map cellRow)), (4, .int .i64 i), (5, .fz ((nextOf b.term).map intRow)), (6, .int .i64 j)] (g3) 48) (Fr.of [(1, .box g0 (fnRow f)), (3, AV.own id 1 (cs.map cellRow)), (4, .int .i64 i), (5, .fz ((nextOf b.term).map intRow)), (6, .int .i64 j), (44, AV.own g3 1 [[AV.int .i64 (i : Int)]])] (g3 + 1) 48) 13 [(12, ?v0_12)] 13
            refine chainX rfl rfl (fun xs hx hq => ?_)
            simp only [fa_c, fa_n, and_true] at hq
            refine ⟨_, by simp -implicitDefEqProofs only [go_sem, hq, hb8, hb9, hbb, hkx, hc, hkc]; rfl, by simp -implicitDefEqProofs only [go_sem], by simp -implicitDefEqProofs only [go_sem], by simp -implicitDefEqProofs only [go_sem, hq, hb8, hb9, hbb, hkx, hc, hkc], by simp -implicitDefEqProofs only [go_sem, fa_c, fa_n, and_true]⟩
          refine fa_cons ?_ ?_
          · show ChainAt Try.prog K _ [31, 32, 33, 34, 35, 36, 37, 38, 39, 40, 41, 42, 43] (Fr.of [(1, .box g0 (fnRow f)), (3, AV.own id 1 (cs.map cellRow)), (4, .int .i64 i), (5, .fz ((nextOf b.term).map intRow)), (6, .int .i64 j), (44, AV.own g3 1 [[AV.int .i64 (i : Int)]])] (g3 + 1) 48) (Fr.of [(1, .box g0 (fnRow f)), (3, AV.own id 1 (cs.map cellRow)), (4, .int .i64 i), (5, .fz ((nextOf b.term).map intRow)), (6, .int .i64 j), (44, AV.own g3 1 [[AV.int .i64 (i : Int)]]), (45, AV.own (g3 + 1) 1 [[AV.int .i64 (i : Int)]])] (g3 + 2) 48) 14 [(5, ?v0_5), (6, ?v0_6), (7, ?v0_7), (8, ?v0_8), (9, ?v0_9), (10, ?v0_10), (11, ?v0_11), (12, ?v0_12)] 13
            refine chainX rfl rfl (fun xs hx hq => ?_)
            simp only [fa_c, fa_n, and_true] at hq
            refine ⟨_, by simp -implicitDefEqProofs only [go_sem, hq, hb8, hb9, hbb, hkx, hc, hkc]; rfl, by simp -implicitDefEqProofs only [go_sem], by simp -implicitDefEqProofs only [go_sem], by simp -implicitDefEqProofs only [go_sem, hq, hb8, hb9, hbb, hkx, hc, hkc], by simp -implicitDefEqProofs only [go_sem, fa_c, fa_n, and_true]⟩
          refine fa_cons ?_ ?_
          · show ChainAt Try.prog K _ [31, 32, 33, 34, 35, 36, 37, 38, 39, 40, 41, 42, 43] (Fr.of [(1, .box g0 (fnRow f)), (3, AV.own id 1 (cs.map cellRow)), (4, .int .i64 i), (5, .fz ((nextOf b.term).map intRow)), (6, .int .i64 j), (44, AV.own g3 1 [[AV.int .i64 (i : Int)]]), (45, AV.own (g3 + 1) 1 [[AV.int .i64 (i : Int)]])] (g3 + 2) 48) (Fr.of [(1, .box g0 (fnRow f)), (3, AV.own id 1 (cs.map cellRow)), (4, .int .i64 i), (5, .fz ((nextOf b.term).map intRow)), (6, .int .i64 j), (44, AV.own g3 1 [[AV.int .i64 (i : Int)]]), (45, AV.own (g3 + 1) 1 [[AV.int .i64 (i : Int)]]), (46, AV.adr (3, []) id 1 k 0)] (g3 + 2) 48) 15 [(0, ?v0_0), (1, ?v0_1), (2, ?v0_2), (3, ?v0_3), (4, ?v0_4), (5, ?v0_5), (6, ?v0_6), (7, ?v0_7), (8, ?v0_8), (9, ?v0_9), (10, ?v0_10), (11, ?v0_11), (12, ?v0_12)] 13
            refine chainX rfl rfl (fun xs hx hq => ?_)
            simp only [fa_c, fa_n, and_true] at hq
            refine ⟨_, by simp -implicitDefEqProofs only [go_sem, hq, hb8, hb9, hbb, hkx, hc, hkc]; rfl, by simp -implicitDefEqProofs only [go_sem], by simp -implicitDefEqProofs only [go_sem], by simp -implicitDefEqProofs only [go_sem, hq, hb8, hb9, hbb, hkx, hc, hkc], by simp -implicitDefEqProofs only [go_sem, fa_c, fa_n, and_true]⟩
          refine fa_cons ?_ ?_
          · show ChainAt Try.prog K _ [31, 32, 33, 34, 35, 36, 37, 38, 39, 40, 41, 42, 43] (Fr.of [(1, .box g0 (fnRow f)), (3, AV.own id 1 (cs.map cellRow)), (4, .int .i64 i), (5, .fz ((nextOf b.term).map intRow)), (6, .int .i64 j), (44, AV.own g3 1 [[AV.int .i64 (i : Int)]]), (45, AV.own (g3 + 1) 1 [[AV.int .i64 (i : Int)]]), (46, AV.adr (3, []) id 1 k 0)] (g3 + 2) 48) (Fr.of [(1, .box g0 (fnRow f)), (3, AV.own id 1 ((cs.set k (AV.own ((g3 + 1)) 1 [[AV.int .i64 (i : Int)]])).map cellRow)), (4, .int .i64 i), (5, .fz ((nextOf b.term).map intRow)), (6, .int .i64 j)] (g3 + 2) 48) 16 [(0, ?v0_0), (1, ?v0_1), (2, ?v0_2), (3, ?v0_3), (4, ?v0_4), (5, ?v0_5), (6, ?v0_6), (7, ?v0_7), (8, ?v0_8), (9, ?v0_9), (10, ?v0_10), (11, ?v0_11), (12, ?v0_12)] 13
            refine chainX rfl rfl (fun xs hx hq => ?_)
            simp only [fa_c, fa_n, and_true] at hq
            refine ⟨_, by simp -implicitDefEqProofs only [go_sem, hq, hb8, hb9, hbb, hkx, hc, hkc]; rfl, by simp -implicitDefEqProofs only [go_sem], by simp -implicitDefEqProofs only [go_sem], by simp -implicitDefEqProofs only [go_sem, hq, hb8, hb9, hbb, hkx, hc, hkc], by simp -implicitDefEqProofs only [go_sem, fa_c, fa_n, and_true]⟩
          exact fa_nil
        show AW _ _ _ _ _
        refine AW.run [] (by simp -implicitDefEqProofs only [go_sem, hb8, hb9, hbb, hkx, hc, hkc]; rfl) (by trivial) ?_
        exact ⟨hltj, (id, cs.set k (AV.own ((g3 + 1)) 1 [[AV.int .i64 (i : Int)]])), by have := hinvj.set (k := k) (id := (g3 + 1)) (w := [(i : Int)]); rw [foldl_take _ _ hkx, addWay, Int.toNat_natCast, hw]; exact this, ⟨by simp -implicitDefEqProofs only [go_sem], by simp -implicitDefEqProofs only [go_sem, hb8, hb9, hbb, hkx, hc, hkc, step_int j (Nat.lt_of_lt_of_le hltj (by omega))]; try simp [hb8, hb9, hbb, hkx, hc, hkc, step_int j (Nat.lt_of_lt_of_le hltj (by omega))]⟩⟩
      · have hbn : (w.length + 1) * 8 ≤ 140737488355328 := by omega
        refine AW.has (n := 48) [(1, .box g0 (fnRow f)), (3, AV.own id 1 (cs.map cellRow)), (4, .int .i64 i), (5, .fz ((nextOf b.term).map intRow)), (6, .int .i64 j)] (⟨by simp -implicitDefEqProofs only [go_sem], by simp -implicitDefEqProofs only [go_sem, hb8, hb9, hbb, hkx, hc, hkc, hbn]; try simp [hb8, hb9, hbb, hkx, hc, hkc, hbn]⟩) (fun g4 => ?_)
        refine AW.drw2 [0, 1, 2, 3, 4, 5, 6, 7, 8, 9, 10, 11, 12] [13, 14, 15, 16] [[], [], [], [1, 2], [1, 2, 3], [], [], [], [6, 7], [6, 7, 8], [5, 6, 7, 8, 9], [5, 6, 7, 8, 9, 10], [], [12], [5, 6, 7, 8, 9, 10, 11, 12, 13], [0, 1, 2, 3, 4, 5, 6, 7, 8, 9, 10, 11, 12, 13, 14], [0, 1, 2, 3, 4, 5, 6, 7, 8, 9, 10, 11, 12, 13, 14, 15]] [31, 32, 33, 34, 35, 36, 37, 38, 39, 40, 41, 42, 43] [?v1_0, ?v1_1, ?v1_2, ?v1_3, ?v1_4, ?v1_5, ?v1_6, ?v1_7, ?v1_8, ?v1_9, ?v1_10, ?v1_11, ?v1_12] [([(1, .box g0 (fnRow f)), (3, AV.own id 1 (cs.map cellRow)), (4, .int .i64 i), (5, .fz ((nextOf b.term).map intRow)), (6, .int .i64 j)], g4), ([(1, .box g0 (fnRow f)), (3, AV.own id 1 (cs.map cellRow)), (4, .int .i64 i), (5, .fz ((nextOf b.term).map intRow)), (6, .int .i64 j), (44, AV.own g4 1 [[AV.int .i64 (i : Int)]])], g4 + 1), ([(1, .box g0 (fnRow f)), (3, AV.own id 1 ((cs.set k AV.undef).map cellRow)), (4, .int .i64 i), (5, .fz ((nextOf b.term).map intRow)), (6, .int .i64 j), (44, AV.own g4 1 [[AV.int .i64 (i : Int)]]), (45, AV.own (g4 + 1) 1 ((w ++ [(i : Int)]).map intRow))], g4 + 2), ([(1, .box g0 (fnRow f)), (3, AV.own id 1 ((cs.set k AV.undef).map cellRow)), (4, .int .i64 i), (5, .fz ((nextOf b.term).map intRow)), (6, .int .i64 j), (44, AV.own g4 1 [[AV.int .i64 (i : Int)]]), (45, AV.own (g4 + 1) 1 ((w ++ [(i : Int)]).map intRow)), (46, AV.adr (3, []) id 1 k 0)], g4 + 2), ([(1, .box g0 (fnRow f)), (3, AV.own id 1 ((cs.set k (AV.own ((g4 + 1)) 1 ((w ++ [(i : Int)]).map intRow))).map cellRow)), (4, .int .i64 i), (5, .fz ((nextOf b.term).map intRow)), (6, .int .i64 j)], g4 + 2)] f_mix (by decide) (by rfl) (by rfl) (by rfl) [(0, 0), (0, 1), (0, 2), (0, 3), (0, 4), (0, 5), (0, 6), (0, 7), (0, 8), (0, 9), (0, 10), (0, 11), (0, 12), (1, 0), (1, 1), (1, 2), (1, 3), (1, 4), (1, 5), (1, 6), (1, 7), (1, 8), (1, 9), (1, 10), (1, 11), (2, 0), (2, 1), (2, 2), (2, 3), (2, 4)] (by rfl) ?_ ?_ ?_
        rotate_left 13
        · refine fa_cons ?_ ?_
          · show HeadAt Try.prog _ ((Fr.of [(1, .box g0 (fnRow f)), (3, AV.own id 1 (cs.map cellRow)), (4, .int .i64 i), (5, .fz ((nextOf b.term).map intRow)), (6, .int .i64 j)] (g4) 48).see [31, 32, 33, 34, 35, 36, 37, 38, 39, 40, 41, 42, 43] [?v1_0, ?v1_1, ?v1_2, ?v1_3, ?v1_4, ?v1_5, ?v1_6, ?v1_7, ?v1_8, ?v1_9, ?v1_10, ?v1_11, ?v1_12] []) 0 ?v1_0
            exact headX rfl rfl (by simp -implicitDefEqProofs only [go_sem, hb8, hb9, hbb, hkx, hc, hkc, hbn]; rfl)
          refine fa_cons ?_ ?_
          · show HeadAt Try.prog _ ((Fr.of [(1, .box g0 (fnRow f)), (3, AV.own id 1 (cs.map cellRow)), (4, .int .i64 i), (5, .fz ((nextOf b.term).map intRow)), (6, .int .i64 j)] (g4) 48).see [31, 32, 33, 34, 35, 36, 37, 38, 39, 40, 41, 42, 43] [?v1_0, ?v1_1, ?v1_2, ?v1_3, ?v1_4, ?v1_5, ?v1_6, ?v1_7, ?v1_8, ?v1_9, ?v1_10, ?v1_11, ?v1_12] []) 1 ?v1_1
            exact headX rfl rfl (by simp -implicitDefEqProofs only [go_sem, hb8, hb9, hbb, hkx, hc, hkc, hbn]; rfl)
          refine fa_cons ?_ ?_
          · show HeadAt Try.prog _ ((Fr.of [(1, .box g0 (fnRow f)), (3, AV.own id 1 (cs.map cellRow)), (4, .int .i64 i), (5, .fz ((nextOf b.term).map intRow)), (6, .int .i64 j)] (g4) 48).see [31, 32, 33, 34, 35, 36, 37, 38, 39, 40, 41, 42, 43] [?v1_0, ?v1_1, ?v1_2, ?v1_3, ?v1_4, ?v1_5, ?v1_6, ?v1_7, ?v1_8, ?v1_9, ?v1_10, ?v1_11, ?v1_12] []) 2 ?v1_2
            exact headX rfl rfl (by simp -implicitDefEqProofs only [go_sem, hb8, hb9, hbb, hkx, hc, hkc, hbn]; rfl)
          refine fa_cons ?_ ?_
          · show HeadAt Try.prog _ ((Fr.of [(1, .box g0 (fnRow f)), (3, AV.own id 1 (cs.map cellRow)), (4, .int .i64 i), (5, .fz ((nextOf b.term).map intRow)), (6, .int .i64 j)] (g4) 48).see [31, 32, 33, 34, 35, 36, 37, 38, 39, 40, 41, 42, 43] [?v1_0, ?v1_1, ?v1_2, ?v1_3, ?v1_4, ?v1_5, ?v1_6, ?v1_7, ?v1_8, ?v1_9, ?v1_10, ?v1_11, ?v1_12] [1, 2]) 3 ?v1_3
            exact headX rfl rfl (by simp -implicitDefEqProofs only [go_sem, hb8, hb9, hbb, hkx, hc, hkc, hbn]; rfl)
          refine fa_cons ?_ ?_
          · show HeadAt Try.prog _ ((Fr.of [(1, .box g0 (fnRow f)), (3, AV.own id 1 (cs.map cellRow)), (4, .int .i64 i), (5, .fz ((nextOf b.term).map intRow)), (6, .int .i64 j)] (g4) 48).see [31, 32, 33, 34, 35, 36, 37, 38, 39, 40, 41, 42, 43] [?v1_0, ?v1_1, ?v1_2, ?v1_3, ?v1_4, ?v1_5, ?v1_6, ?v1_7, ?v1_8, ?v1_9, ?v1_10, ?v1_11, ?v1_12] [1, 2, 3]) 4 ?v1_4
            exact headX rfl rfl (by simp -implicitDefEqProofs only [go_sem, hb8, hb9, hbb, hkx, hc, hkc, hbn]; rfl)
          refine fa_cons ?_ ?_
          · show HeadAt Try.prog _ ((Fr.of [(1, .box g0 (fnRow f)), (3, AV.own id 1 (cs.map cellRow)), (4, .int .i64 i), (5, .fz ((nextOf b.term).map intRow)), (6, .int .i64 j)] (g4) 48).see [31, 32, 33, 34, 35, 36, 37, 38, 39, 40, 41, 42, 43] [?v1_0, ?v1_1, ?v1_2, ?v1_3, ?v1_4, ?v1_5, ?v1_6, ?v1_7, ?v1_8, ?v1_9, ?v1_10, ?v1_11, ?v1_12] []) 5 ?v1_5
            exact headX rfl rfl (by simp -implicitDefEqProofs only [go_sem, hb8, hb9, hbb, hkx, hc, hkc, hbn]; rfl)
          refine fa_cons ?_ ?_
          · show HeadAt Try.prog _ ((Fr.of [(1, .box g0 (fnRow f)), (3, AV.own id 1 (cs.map cellRow)), (4, .int .i64 i), (5, .fz ((nextOf b.term).map intRow)), (6, .int .i64 j)] (g4) 48).see [31, 32, 33, 34, 35, 36, 37, 38, 39, 40, 41, 42, 43] [?v1_0, ?v1_1, ?v1_2, ?v1_3, ?v1_4, ?v1_5, ?v1_6, ?v1_7, ?v1_8, ?v1_9, ?v1_10, ?v1_11, ?v1_12] []) 6 ?v1_6
            exact headX rfl rfl (by simp -implicitDefEqProofs only [go_sem, hb8, hb9, hbb, hkx, hc, hkc, hbn]; rfl)
          refine fa_cons ?_ ?_
          · show HeadAt Try.prog _ ((Fr.of [(1, .box g0 (fnRow f)), (3, AV.own id 1 (cs.map cellRow)), (4, .int .i64 i), (5, .fz ((nextOf b.term).map intRow)), (6, .int .i64 j)] (g4) 48).see [31, 32, 33, 34, 35, 36, 37, 38, 39, 40, 41, 42, 43] [?v1_0, ?v1_1, ?v1_2, ?v1_3, ?v1_4, ?v1_5, ?v1_6, ?v1_7, ?v1_8, ?v1_9, ?v1_10, ?v1_11, ?v1_12] []) 7 ?v1_7
            exact headX rfl rfl (by simp -implicitDefEqProofs only [go_sem, hb8, hb9, hbb, hkx, hc, hkc, hbn]; rfl)
          refine fa_cons ?_ ?_
          · show HeadAt Try.prog _ ((Fr.of [(1, .box g0 (fnRow f)), (3, AV.own id 1 (cs.map cellRow)), (4, .int .i64 i), (5, .fz ((nextOf b.term).map intRow)), (6, .int .i64 j)] (g4) 48).see [31, 32, 33, 34, 35, 36, 37, 38, 39, 40, 41, 42, 43] [?v1_0, ?v1_1, ?v1_2, ?v1_3, ?v1_4, ?v1_5, ?v1_6, ?v1_7, ?v1_8, ?v1_9, ?v1_10, ?v1_11, ?v1_12] [6, 7]) 8 ?v1_8
            exact headX rfl rfl (by simp -implicitDefEqProofs only [go_sem, hb8, hb9, hbb, hkx, hc, hkc, hbn]; rfl)
          refine fa_cons ?_ ?_
          · show HeadAt Try.prog _ ((Fr.of [(1, .box g0 (fnRow f)), (3, AV.own id 1 (cs.map cellRow)), (4, .int .i64 i), (5, .fz ((nextOf b.term).map intRow)), (6, .int .i64 j)] (g4) 48).see [31, 32, 33, 34, 35, 36, 37, 38, 39, 40, 41, 42, 43] [?v1_0, ?v1_1, ?v1_2, ?v1_3, ?v1_4, ?v1_5, ?v1_6, ?v1_7, ?v1_8, ?v1_9, ?v1_10, ?v1_11, ?v1_12] [6, 7, 8]) 9 ?v1_9
            exact headX rfl rfl (by simp -implicitDefEqProofs only [go_sem, hb8, hb9, hbb, hkx, hc, hkc, hbn]; rfl)
          refine fa_cons ?_ ?_
          · show HeadAt Try.prog _ ((Fr.of [(1, .box g0 (fnRow f)), (3, AV.own id 1 (cs.map cellRow)), (4, .int .i64 i), (5, .fz ((nextOf b.term).map intRow)), (6, .int .i64 j)] (g4) 48).see [31, 32, 33, 34, 35, 36, 37, 38, 39, 40, 41, 42, 43] [?v1_0, ?v1_1, ?v1_2, ?v1_3, ?v1_4, ?v1_5, ?v1_6, ?v1_7, ?v1_8, ?v1_9, ?v1_10, ?v1_11, ?v1_12] [5, 6, 7, 8, 9]) 10 ?v1_10
            exact headX rfl rfl (by simp -implicitDefEqProofs only [go_sem, hb8, hb9, hbb, hkx, hc, hkc, hbn]; rfl)
          refine fa_cons ?_ ?_
          · show HeadAt Try.prog _ ((Fr.of [(1, .box g0 (fnRow f)), (3, AV.own id 1 (cs.map cellRow)), (4, .int .i64 i), (5, .fz ((nextOf b.term).map intRow)), (6, .int .i64 j)] (g4) 48).see [31, 32, 33, 34, 35, 36, 37, 38, 39, 40, 41, 42, 43] [?v1_0, ?v1_1, ?v1_2, ?v1_3, ?v1_4, ?v1_5, ?v1_6, ?v1_7, ?v1_8, ?v1_9, ?v1_10, ?v1_11, ?v1_12] [5, 6, 7, 8, 9, 10]) 11 ?v1_11
            exact headX rfl rfl (by simp -implicitDefEqProofs only [go_sem, hb8, hb9, hbb, hkx, hc, hkc, hbn]; rfl)
          refine fa_cons ?_ ?_
          · show HeadAt Try.prog _ ((Fr.of [(1, .box g0 (fnRow f)), (3, AV.own id 1 (cs.map cellRow)), (4, .int .i64 i), (5, .fz ((nextOf b.term).map intRow)), (6, .int .i64 j)] (g4) 48).see [31, 32, 33, 34, 35, 36, 37, 38, 39, 40, 41, 42, 43] [?v1_0, ?v1_1, ?v1_2, ?v1_3, ?v1_4, ?v1_5, ?v1_6, ?v1_7, ?v1_8, ?v1_9, ?v1_10, ?v1_11, ?v1_12] []) 12 ?v1_12
            exact headX rfl rfl (by simp -implicitDefEqProofs only [go_sem, hb8, hb9, hbb, hkx, hc, hkc, hbn]; rfl)
          refine fa_cons ?_ ?_
          · show HeadAt Try.prog _ ((Fr.of [(1, .box g0 (fnRow f)), (3, AV.own id 1 (cs.map cellRow)), (4, .int .i64 i), (5, .fz ((nextOf b.term).map intRow)), (6, .int .i64 j), (44, AV.own g4 1 [[AV.int .i64 (i : Int)]])] (g4 + 1) 48).see [31, 32, 33, 34, 35, 36, 37, 38, 39, 40, 41, 42, 43] [?v1_0, ?v1_1, ?v1_2, ?v1_3, ?v1_4, ?v1_5, ?v1_6, ?v1_7, ?v1_8, ?v1_9, ?v1_10, ?v1_11, ?v1_12] []) 0 ?v1_0
            exact headX rfl rfl (by simp -implicitDefEqProofs only [go_sem, hb8, hb9, hbb, hkx, hc, hkc, hbn])
          refine fa_cons ?_ ?_
          · show HeadAt Try.prog _ ((Fr.of [(1, .box g0 (fnRow f)), (3, AV.own id 1 (cs.map cellRow)), (4, .int .i64 i), (5, .fz ((nextOf b.term).map intRow)), (6, .int .i64 j), (44, AV.own g4 1 [[AV.int .i64 (i : Int)]])] (g4 + 1) 48).see [31, 32, 33, 34, 35, 36, 37, 38, 39, 40, 41, 42, 43] [?v1_0, ?v1_1, ?v1_2, ?v1_3, ?v1_4, ?v1_5, ?v1_6, ?v1_7, ?v1_8, ?v1_9, ?v1_10, ?v1_11, ?v1_12] []) 1 ?v1_1
            exact headX rfl rfl (by simp -implicitDefEqProofs only [go_sem, hb8, hb9, hbb, hkx, hc, hkc, hbn])
          refine fa_cons ?_ ?_
          · show HeadAt Try.prog _ ((Fr.of [(1, .box g0 (fnRow f)), (3, AV.own id 1 (cs.map cellRow)), (4, .int .i64 i), (5, .fz ((nextOf b.term).map intRow)), (6, .int .i64 j), (44, AV.own g4 1 [[AV.int .i64 (i : Int)]])] (g4 + 1) 48).see [31, 32, 33, 34, 35, 36, 37, 38, 39, 40, 41, 42, 43] [?v1_0, ?v1_1, ?v1_2, ?v1_3, ?v1_4, ?v1_5, ?v1_6, ?v1_7, ?v1_8, ?v1_9, ?v1_10, ?v1_11, ?v1_12] []) 2 ?v1_2
            exact headX rfl rfl (by simp -implicitDefEqProofs only [go_sem, hb8, hb9, hbb, hkx, hc, hkc, hbn])
          refine fa_cons ?_ ?_
          · show HeadAt Try.prog _ ((Fr.of [(1, .box g0 (fnRow f)), (3, AV.own id 1 (cs.map cellRow)), (4, .int .i64 i), (5, .fz ((nextOf b.term).map intRow)), (6, .int .i64 j), (44, AV.own g4 1 [[AV.int .i64 (i : Int)]])] (g4 + 1) 48).see [31, 32, 33, 34, 35, 36, 37, 38, 39, 40, 41, 42, 43] [?v1_0, ?v1_1, ?v1_2, ?v1_3, ?v1_4, ?v1_5, ?v1_6, ?v1_7, ?v1_8, ?v1_9, ?v1_10, ?v1_11, ?v1_12] [1, 2]) 3 ?v1_3
            exact headX rfl rfl (by simp -implicitDefEqProofs only [go_sem, hb8, hb9, hbb, hkx, hc, hkc, hbn])
          refine fa_cons ?_ ?_
          · show HeadAt Try.prog _ ((Fr.of [(1, .box g0 (fnRow f)), (3, AV.own id 1 (cs.map cellRow)), (4, .int .i64 i), (5, .fz ((nextOf b.term).map intRow)), (6, .int .i64 j), (44, AV.own g4 1 [[AV.int .i64 (i : Int)]])] (g4 + 1) 48).see [31, 32, 33, 34, 35, 36, 37, 38, 39, 40, 41, 42, 43] [?v1_0, ?v1_1, ?v1_2, ?v1_3, ?v1_4, ?v1_5, ?v1_6, ?v1_7, ?v1_8, ?v1_9, ?v1_10, ?v1_11, ?v1_12] [1, 2, 3]) 4 ?v1_4
            exact headX rfl rfl (by simp -implicitDefEqProofs only [go_sem, hb8, hb9, hbb, hkx, hc, hkc, hbn])
          refine fa_cons ?_ ?_
          · show HeadAt Try.prog _ ((Fr.of [(1, .box g0 (fnRow f)), (3, AV.own id 1 (cs.map cellRow)), (4, .int .i64 i), (5, .fz ((nextOf b.term).map intRow)), (6, .int .i64 j), (44, AV.own g4 1 [[AV.int .i64 (i : Int)]])] (g4 + 1) 48).see [31, 32, 33, 34, 35, 36, 37, 38, 39, 40, 41, 42, 43] [?v1_0, ?v1_1, ?v1_2, ?v1_3, ?v1_4, ?v1_5, ?v1_6, ?v1_7, ?v1_8, ?v1_9, ?v1_10, ?v1_11, ?v1_12] []) 5 ?v1_5
            exact headX rfl rfl (by simp -implicitDefEqProofs only [go_sem, hb8, hb9, hbb, hkx, hc, hkc, hbn])
          refine fa_cons ?_ ?_
          · show HeadAt Try.prog _ ((Fr.of [(1, .box g0 (fnRow f)), (3, AV.own id 1 (cs.map cellRow)), (4, .int .i64 i), (5, .fz ((nextOf b.term).map intRow)), (6, .int .i64 j), (44, AV.own g4 1 [[AV.int .i64 (i : Int)]])] (g4 + 1) 48).see [31, 32, 33, 34, 35, 36, 37, 38, 39, 40, 41, 42, 43] [?v1_0, ?v1_1, ?v1_2, ?v1_3, ?v1_4, ?v1_5, ?v1_6, ?v1_7, ?v1_8, ?v1_9, ?v1_10, ?v1_11, ?v1_12] []) 6 ?v1_6
            exact headX rfl rfl (by simp -implicitDefEqProofs only [go_sem, hb8, hb9, hbb, hkx, hc, hkc, hbn])
          refine fa_cons ?_ ?_
          · show HeadAt Try.prog _ ((Fr.of [(1, .box g0 (fnRow f)), (3, AV.own id 1 (cs.map cellRow)), (4, .int .i64 i), (5, .fz ((nextOf b.term).map intRow)), (6, .int .i64 j), (44, AV.own g4 1 [[AV.int .i64 (i : Int)]])] (g4 + 1) 48).see [31, 32, 33, 34, 35, 36, 37, 38, 39, 40, 41, 42, 43] [?v1_0, ?v1_1, ?v1_2, ?v1_3, ?v1_4, ?v1_5, ?v1_6, ?v1_7, ?v1_8, ?v1_9, ?v1_10, ?v1_11, ?v1_12] []) 7 ?v1_7
            exact headX rfl rfl (by simp -implicitDefEqProofs only [go_sem, hb8, hb9, hbb, hkx, hc, hkc, hbn])
          refine fa_cons ?_ ?_
          · show HeadAt Try.prog _ ((Fr.of [(1, .box g0 (fnRow f)), (3, AV.own id 1 (cs.map cellRow)), (4, .int .i64 i), (5, .fz ((nextOf b.term).map intRow)), (6, .int .i64 j), (44, AV.own g4 1 [[AV.int .i64 (i : Int)]])] (g4 + 1) 48).see [31, 32, 33, 34, 35, 36, 37, 38, 39, 40, 41, 42, 43] [?v1_0, ?v1_1, ?v1_2, ?v1_3, ?v1_4, ?v1_5, ?v1_6, ?v1_7, ?v1_8, ?v1_9, ?v1_10, ?v1_11, ?v1_12] [6, 7]) 8 ?v1_8
            exact headX rfl rfl (by simp -implicitDefEqProofs only [go_sem, hb8, hb9, hbb, hkx, hc, hkc, hbn])
          refine fa_cons ?_ ?_
          · show HeadAt Try.prog _ ((Fr.of [(1, .box g0 (fnRow f)), (3, AV.own id 1 (cs.map cellRow)), (4, .int .i64 i), (5, .fz ((nextOf b.term).map intRow)), (6, .int .i64 j), (44, AV.own g4 1 [[AV.int .i64 (i : Int)]])] (g4 + 1) 48).see [31, 32, 33, 34, 35, 36, 37, 38, 39, 40, 41, 42, 43] [?v1_0, ?v1_1, ?v1_2, ?v1_3, ?v1_4, ?v1_5, ?v1_6, ?v1_7, ?v1_8, ?v1_9, ?v1_10, ?v1_11, ?v1_12] [6, 7, 8]) 9 ?v1_9
            exact headX rfl rfl (by simp -implicitDefEqProofs only [go_sem, hb8, hb9, hbb, hkx, hc, hkc, hbn])
          refine fa_cons ?_ ?_
          · show HeadAt Try.prog _ ((Fr.of [(1, .box g0 (fnRow f)), (3, AV.own id 1 (cs.map cellRow)), (4, .int .i64 i), (5, .fz ((nextOf b.term).map intRow)), (6, .int .i64 j), (44, AV.own g4 1 [[AV.int .i64 (i : Int)]])] (g4 + 1) 48).see [31, 32, 33, 34, 35, 36, 37, 38, 39, 40, 41, 42, 43] [?v1_0, ?v1_1, ?v1_2, ?v1_3, ?v1_4, ?v1_5, ?v1_6, ?v1_7, ?v1_8, ?v1_9, ?v1_10, ?v1_11, ?v1_12] [5, 6, 7, 8, 9]) 10 ?v1_10
            exact headX rfl rfl (by simp -implicitDefEqProofs only [go_sem, hb8, hb9, hbb, hkx, hc, hkc, hbn])
          refine fa_cons ?_ ?_
          · show HeadAt Try.prog _ ((Fr.of [(1, .box g0 (fnRow f)), (3, AV.own id 1 (cs.map cellRow)), (4, .int .i64 i), (5, .fz ((nextOf b.term).map intRow)), (6, .int .i64 j), (44, AV.own g4 1 [[AV.int .i64 (i : Int)]])] (g4 + 1) 48).see [31, 32, 33, 34, 35, 36, 37, 38, 39, 40, 41, 42, 43] [?v1_0, ?v1_1, ?v1_2, ?v1_3, ?v1_4, ?v1_5, ?v1_6, ?v1_7, ?v1_8, ?v1_9, ?v1_10, ?v1_11, ?v1_12] [5, 6, 7, 8, 9, 10]) 11 ?v1_11
            exact headX rfl rfl (by simp -implicitDefEqProofs only [go_sem, hb8, hb9, hbb, hkx, hc, hkc, hbn])
          refine fa_cons ?_ ?_
          · show HeadAt Try.prog _ ((Fr.of [(1, .box g0 (fnRow f)), (3, AV.own id 1 ((cs.set k AV.undef).map cellRow)), (4, .int .i64 i), (5, .fz ((nextOf b.term).map intRow)), (6, .int .i64 j), (44, AV.own g4 1 [[AV.int .i64 (i : Int)]]), (45, AV.own (g4 + 1) 1 ((w ++ [(i : Int)]).map intRow))] (g4 + 2) 48).see [31, 32, 33, 34, 35, 36, 37, 38, 39, 40, 41, 42, 43] [?v1_0, ?v1_1, ?v1_2, ?v1_3, ?v1_4, ?v1_5, ?v1_6, ?v1_7, ?v1_8, ?v1_9, ?v1_10, ?v1_11, ?v1_12] []) 0 ?v1_0
            exact headX rfl rfl (by simp -implicitDefEqProofs only [go_sem, hb8, hb9, hbb, hkx, hc, hkc, hbn])
          refine fa_cons ?_ ?_
          · show HeadAt Try.prog _ ((Fr.of [(1, .box g0 (fnRow f)), (3, AV.own id 1 ((cs.set k AV.undef).map cellRow)), (4, .int .i64 i), (5, .fz ((nextOf b.term).map intRow)), (6, .int .i64 j), (44, AV.own g4 1 [[AV.int .i64 (i : Int)]]), (45, AV.own (g4 + 1) 1 ((w ++ [(i : Int)]).map intRow))] (g4 + 2) 48).see [31, 32, 33, 34, 35, 36, 37, 38, 39, 40, 41, 42, 43] [?v1_0, ?v1_1, ?v1_2, ?v1_3, ?v1_4, ?v1_5, ?v1_6, ?v1_7, ?v1_8, ?v1_9, ?v1_10, ?v1_11, ?v1_12] []) 1 ?v1_1
            exact headX rfl rfl (by simp -implicitDefEqProofs only [go_sem, hb8, hb9, hbb, hkx, hc, hkc, hbn])
          refine fa_cons ?_ ?_
          · show HeadAt Try.prog _ ((Fr.of [(1, .box g0 (fnRow f)), (3, AV.own id 1 ((cs.set k AV.undef).map cellRow)), (4, .int .i64 i), (5, .fz ((nextOf b.term).map intRow)), (6, .int .i64 j), (44, AV.own g4 1 [[AV.int .i64 (i : Int)]]), (45, AV.own (g4 + 1) 1 ((w ++ [(i : Int)]).map intRow))] (g4 + 2) 48).see [31, 32, 33, 34, 35, 36, 37, 38, 39, 40, 41, 42, 43] [?v1_0, ?v1_1, ?v1_2, ?v1_3, ?v1_4, ?v1_5, ?v1_6, ?v1_7, ?v1_8, ?v1_9, ?v1_10, ?v1_11, ?v1_12] []) 2 ?v1_2
            exact headX rfl rfl (by simp -implicitDefEqProofs only [go_sem, hb8, hb9, hbb, hkx, hc, hkc, hbn])
          refine fa_cons ?_ ?_
          · show HeadAt Try.prog _ ((Fr.of [(1, .box g0 (fnRow f)), (3, AV.own id 1 ((cs.set k AV.undef).map cellRow)), (4, .int .i64 i), (5, .fz ((nextOf b.term).map intRow)), (6, .int .i64 j), (44, AV.own g4 1 [[AV.int .i64 (i : Int)]]), (45, AV.own (g4 + 1) 1 ((w ++ [(i : Int)]).map intRow))] (g4 + 2) 48).see [31, 32, 33, 34, 35, 36, 37, 38, 39, 40, 41, 42, 43] [?v1_0, ?v1_1, ?v1_2, ?v1_3, ?v1_4, ?v1_5, ?v1_6, ?v1_7, ?v1_8, ?v1_9, ?v1_10, ?v1_11, ?v1_12] [1, 2]) 3 ?v1_3
            exact headX rfl rfl (by simp -implicitDefEqProofs only [go_sem, hb8, hb9, hbb, hkx, hc, hkc, hbn])
          refine fa_cons ?_ ?_
          · show HeadAt Try.prog _ ((Fr.of [(1, .box g0 (fnRow f)), (3, AV.own id 1 ((cs.set k AV.undef).map cellRow)), (4, .int .i64 i), (5, .fz ((nextOf b.term).map intRow)), (6, .int .i64 j), (44, AV.own g4 1 [[AV.int .i64 (i : Int)]]), (45, AV.own (g4 + 1) 1 ((w ++ [(i : Int)]).map intRow))] (g4 + 2) 48).see [31, 32, 33, 34, 35, 36, 37, 38, 39, 40, 41, 42, 43] [?v1_0, ?v1_1, ?v1_2, ?v1_3, ?v1_4, ?v1_5, ?v1_6, ?v1_7, ?v1_8, ?v1_9, ?v1_10, ?v1_11, ?v1_12] [1, 2, 3]) 4 ?v1_4
            exact headX rfl rfl (by simp -implicitDefEqProofs only [go_sem, hb8, hb9, hbb, hkx, hc, hkc, hbn])
          exact fa_nil
        · refine fa_cons ?_ ?_
          · show ChainAt Try.prog K _ [31, 32, 33, 34, 35, 36, 37, 38, 39, 40, 41, 42, 43] (Fr.of [(1, .box g0 (fnRow f)), (3, AV.own id 1 (cs.map cellRow)), (4, .int .i64 i), (5, .fz ((nextOf b.term).map intRow)), (6, .int .i64 j)] (g4) 48) (Fr.of [(1, .box g0 (fnRow f)), (3, AV.own id 1 (cs.map cellRow)), (4, .int .i64 i), (5, .fz ((nextOf b.term).map intRow)), (6, .int .i64 j), (44, AV.own g4 1 [[AV.int .i64 (i : Int)]])] (g4 + 1) 48) 13 [(12, ?v1_12)] 13
            refine chainX rfl rfl (fun xs hx hq => ?_)
            simp only [fa_c, fa_n, and_true] at hq
            refine ⟨_, by simp -implicitDefEqProofs only [go_sem, hq, hb8, hb9, hbb, hkx, hc, hkc, hbn]; rfl, by simp -implicitDefEqProofs only [go_sem], by simp -implicitDefEqProofs only [go_sem], by simp -implicitDefEqProofs only [go_sem, hq, hb8, hb9, hbb, hkx, hc, hkc, hbn], by simp -implicitDefEqProofs only [go_sem, fa_c, fa_n, and_true]⟩
          refine fa_cons ?_ ?_
          · show ChainAt Try.prog K _ [31, 32, 33, 34, 35, 36, 37, 38, 39, 40, 41, 42, 43] (Fr.of [(1, .box g0 (fnRow f)), (3, AV.own id 1 (cs.map cellRow)), (4, .int .i64 i), (5, .fz ((nextOf b.term).map intRow)), (6, .int .i64 j), (44, AV.own g4 1 [[AV.int .i64 (i : Int)]])] (g4 + 1) 48) (Fr.of [(1, .box g0 (fnRow f)), (3, AV.own id 1 ((cs.set k AV.undef).map cellRow)), (4, .int .i64 i), (5, .fz ((nextOf b.term).map intRow)), (6, .int .i64 j), (44, AV.own g4 1 [[AV.int .i64 (i : Int)]]), (45, AV.own (g4 + 1) 1 ((w ++ [(i : Int)]).map intRow))] (g4 + 2) 48) 14 [(5, ?v1_5), (6, ?v1_6), (7, ?v1_7), (8, ?v1_8), (9, ?v1_9), (10, ?v1_10), (11, ?v1_11), (12, ?v1_12)] 13
            refine chainX rfl rfl (fun xs hx hq => ?_)
            simp only [fa_c, fa_n, and_true] at hq
            refine ⟨_, by simp -implicitDefEqProofs only [go_sem, hq, hb8, hb9, hbb, hkx, hc, hkc, hbn]; rfl, by simp -implicitDefEqProofs only [go_sem], by simp -implicitDefEqProofs only [go_sem], by simp -implicitDefEqProofs only [go_sem, hq, hb8, hb9, hbb, hkx, hc, hkc, hbn], by simp -implicitDefEqProofs only [go_sem, fa_c, fa_n, and_true]⟩
          refine fa_cons ?_ ?_
          · show ChainAt Try.prog K _ [31, 32, 33, 34, 35, 36, 37, 38, 39, 40, 41, 42, 43] (Fr.of [(1, .box g0 (fnRow f)), (3, AV.own id 1 ((cs.set k AV.undef).map cellRow)), (4, .int .i64 i), (5, .fz ((nextOf b.term).map intRow)), (6, .int .i64 j), (44, AV.own g4 1 [[AV.int .i64 (i : Int)]]), (45, AV.own (g4 + 1) 1 ((w ++ [(i : Int)]).map intRow))] (g4 + 2) 48) (Fr.of [(1, .box g0 (fnRow f)), (3, AV.own id 1 ((cs.set k AV.undef).map cellRow)), (4, .int .i64 i), (5, .fz ((nextOf b.term).map intRow)), (6, .int .i64 j), (44, AV.own g4 1 [[AV.int .i64 (i : Int)]]), (45, AV.own (g4 + 1) 1 ((w ++ [(i : Int)]).map intRow)), (46, AV.adr (3, []) id 1 k 0)] (g4 + 2) 48) 15 [(0, ?v1_0), (1, ?v1_1), (2, ?v1_2), (3, ?v1_3), (4, ?v1_4), (5, ?v1_5), (6, ?v1_6), (7, ?v1_7), (8, ?v1_8), (9, ?v1_9), (10, ?v1_10), (11, ?v1_11), (12, ?v1_12)] 13
            refine chainX rfl rfl (fun xs hx hq => ?_)
            simp only [fa_c, fa_n, and_true] at hq
            refine ⟨_, by simp -implicitDefEqProofs only [go_sem, hq, hb8, hb9, hbb, hkx, hc, hkc, hbn]; rfl, by simp -implicitDefEqProofs only [go_sem], by simp -implicitDefEqProofs only [go_sem], by simp -implicitDefEqProofs only [go_sem, hq, hb8, hb9, hbb, hkx, hc, hkc, hbn], by simp -implicitDefEqProofs only [go_sem, fa_c, fa_n, and_true]⟩
          refine fa_cons ?_ ?_
          · show ChainAt Try.prog K _ [31, 32, 33, 34, 35, 36, 37, 38, 39, 40, 41, 42, 43] (Fr.of [(1, .box g0 (fnRow f)), (3, AV.own id 1 ((cs.set k AV.undef).map cellRow)), (4, .int .i64 i), (5, .fz ((nextOf b.term).map intRow)), (6, .int .i64 j), (44, AV.own g4 1 [[AV.int .i64 (i : Int)]]), (45, AV.own (g4 + 1) 1 ((w ++ [(i : Int)]).map intRow)), (46, AV.adr (3, []) id 1 k 0)] (g4 + 2) 48) (Fr.of [(1, .box g0 (fnRow f)), (3, AV.own id 1 ((cs.set k (AV.own ((g4 + 1)) 1 ((w ++ [(i : Int)]).map intRow))).map cellRow)), (4, .int .i64 i), (5, .fz ((nextOf b.term).map intRow)), (6, .int .i64 j)] (g4 + 2) 48) 16 [(0, ?v1_0), (1, ?v1_1), (2, ?v1_2), (3, ?v1_3), (4, ?v1_4), (5, ?v1_5), (6, ?v1_6), (7, ?v1_7), (8, ?v1_8), (9, ?v1_9), (10, ?v1_10), (11, ?v1_11), (12, ?v1_12)] 13
            refine chainX rfl rfl (fun xs hx hq => ?_)
            simp only [fa_c, fa_n, and_true] at hq
            refine ⟨_, by simp -implicitDefEqProofs only [go_sem, hq, hb8, hb9, hbb, hkx, hc, hkc, hbn]; rfl, by simp -implicitDefEqProofs only [go_sem], by simp -implicitDefEqProofs only [go_sem], by simp -implicitDefEqProofs only [go_sem, hq, hb8, hb9, hbb, hkx, hc, hkc, hbn], by simp -implicitDefEqProofs only [go_sem, fa_c, fa_n, and_true]⟩
          exact fa_nil
        show AW _ _ _ _ _
        refine AW.run [] (by simp -implicitDefEqProofs only [go_sem, hb8, hb9, hbb, hkx, hc, hkc, hbn]; rfl) (by trivial) ?_
        exact ⟨hltj, (id, cs.set k (AV.own ((g4 + 1)) 1 ((w ++ [(i : Int)]).map intRow))), by have := hinvj.set (k := k) (id := (g4 + 1)) (w := w ++ [(i : Int)]); rw [foldl_take _ _ hkx, addWay, Int.toNat_natCast, hw]; exact this, ⟨by simp -implicitDefEqProofs only [go_sem], by simp -implicitDefEqProofs only [go_sem, hb8, hb9, hbb, hkx, hc, hkc, hbn, step_int j (Nat.lt_of_lt_of_le hltj (by omega))]; try simp [hb8, hb9, hbb, hkx, hc, hkc, hbn, step_int j (Nat.lt_of_lt_of_le hltj (by omega))]⟩⟩
    · have hx : CellsI cs ((nextOf b.term).foldl (addWay i) (waysTo (termsOf f) i)) := by rwa [List.take_of_length_le (ge_dec ht28)] at hinvj
      refine AW.exit ?_
      show AW _ _ _ _ _
      refine AW.run [] (by simp -implicitDefEqProofs only [go_sem, hb8, hb9, hbb]; rfl) (by trivial) ?_
      exact ⟨hlti, (id, cs), by rw [waysTo, hbt]; exact hx, ⟨by simp -implicitDefEqProofs only [go_sem], by simp -implicitDefEqProofs only [go_sem, hb8, hb9, hbb, step_int i (Nat.lt_of_lt_of_le hlti (by omega))]; try simp [hb8, hb9, hbb, step_int i (Nat.lt_of_lt_of_le hlti (by omega))]⟩⟩
  · have hie : i = f.blocks.length := by have := ge_dec ht15; omega
    subst hie
    refine AW.exit ?_
    show AW _ _ _ _ _
    refine AW.runs [] (by simp -implicitDefEqProofs only [go_sem, hb8, hb9]; rfl) (by trivial) ?_
    exact AW.ret ⟨.inl rfl, _, rfl, by simp -implicitDefEqProofs only [go_sem]; rw [← hts] at hinvi; exact hinvi.frz⟩
end Go.Proofs.Ytgoajlgkbcongaa.Vm
end
section
set_option linter.unusedVariables false
set_option linter.unusedSimpArgs false
set_option maxRecDepth 100000
namespace Go.Proofs.Ytgoajlgkbcongaa.Vm
open Go Go.RowKit Go.Proofs
def k1 (op : Int) : Bool := op == 32 || op == 36 || op == 43 || op == 44 || op == 47
def k2 (op : Int) : Bool := op == 34 || op == 35 || op == 46
def k3 (op : Int) : Bool := op == 37 || op == 38
def k4 (op : Int) : Bool := op == 39 || op == 40
def wordsLt (f : Fn) (k n : Int) : Bool := match atI f.vars k with
  | some v => decide (n < v.words)
  | none => false
def argsFit (u : Unt) (k : Int) (n : Int) : Bool := match atI u.funcs k with
  | some g => n == g.params
  | none => false
def pointOf (u : Unt) (k : Int) (n : Int) : Bool := match atI u.points k with
  | some p => p.func == n
  | none => false
/-- Is it an instruction, with its variable in place? -/
def knownOf (u : Unt) (n : Int) (f : Fn) (x : Ins) : Bool :=
  if k1 x.op then true else if x.op == 33 then (if decide (x.num ≥ 0) then decide (x.num < f.params) else false) else if k2 x.op then scalarAt f x.var else if k3 x.op then arrayAt f x.var else
  if k4 x.op then (if fieldsAt f x.var then (if decide (x.num ≥ 0) then wordsLt f x.var x.num else false) else false) else if x.op == 41 then (if arrayAt f x.var then true else fieldsAt f x.var) else
  if x.op == 42 then (if decide (x.num ≥ 0) then argsFit u x.num x.args.length else false) else if x.op == 45 then (if decide (x.num ≥ 0) then pointOf u x.num n else false) else if decide (x.op ≥ 1) then decide (x.op ≤ 15) else false
theorem fieldsAt_some {f : Fn} {k : Int} (h : fieldsAt f k = true) : ∃ (m : Nat) (v : Var), k = (m : Int) ∧ f.vars[m]? = some v := by
  unfold fieldsAt atI at h
  by_cases h0 : 0 ≤ k
  · rw [if_pos h0] at h
    obtain ⟨m, rfl⟩ := Int.eq_ofNat_of_zero_le h0
    cases hv : f.vars[m]? with
    | none => simp [hv] at h
    | some v => exact ⟨m, v, rfl, hv⟩
  · rw [if_neg h0] at h; cases h
theorem natlt_f {a b : Nat} (h : decide ((a : Int) < (b : Int)) = false) {α : Type} {l : List α} (hl : l.length = b) : l[a]? = none := List.getElem?_eq_none (by have := ge_dec h; omega)
theorem natlt_t {a : Nat} {α : Type} {l : List α} (h : decide ((a : Int) < (l.length : Int)) = true) : ∃ x, l[a]? = some x := get_of_lt (lt_dec h)
theorem if_tt {α : Type} (a b : α) : (if (true : Bool) = true then a else b) = a := rfl
theorem if_ff {α : Type} (a b : α) : (if (false : Bool) = true then a else b) = b := rfl
attribute [go_sem] if_tt if_ff
theorem fun83 (u : Unt) (n : Nat) (f : Fn) (x : Ins) (hf : u.funcs[n]? = some f) : Fun Try.prog 83 [.agg (untRow u), .int .i64 n, .agg (insRow x)] (fun r => r = .bool (knownOf u n f x)) := by
  refine Fun.ok Try.func83 rfl (by rfl) 142 Try.ntmps83 (by rfl) fun hok K g0 => ?_
  simp -implicitDefEqProofs only [go_sem]
  refine AW.runs [] (by simp -implicitDefEqProofs only [go_sem, hf, nn]; rfl) (by trivial) ?_
  refine AW.runs [] (by simp -implicitDefEqProofs only [go_sem, hf, nn]; rfl) (by trivial) ?_
  refine AW.seq ?_
  refine AW.runs [] (by simp -implicitDefEqProofs only [go_sem, hf, nn]; rfl) (by trivial) ?_
  refine AW.block ?_
  refine AW.join [(1, .int .i64 n), (3, .box g0 (untRow u)), (5, .box (g0 + 1) (insRow x)), (7, .box (g0 + 2) (fnRow f)), (14, .int .u8 x.op), (15, .bool (k1 x.op))] 142 ?_ (fun g1 => ?_)
  · refine AW.runs [] (by simp -implicitDefEqProofs only [go_sem, hf, nn]; rfl) (by trivial) ?_
    refine AW.if (by simp -implicitDefEqProofs only [go_sem, hf, nn]; rfl) (fun ht15 => ?_) (fun ht15 => ?_)
    · refine AW.skip ?_
      exact ⟨by simp -implicitDefEqProofs only [go_sem], by simp -implicitDefEqProofs only [go_sem, hf, nn, ht15, k1]; try simp [hf, nn, ht15, k1]⟩
    · refine AW.runs [] (by simp -implicitDefEqProofs only [go_sem, hf, nn, ht15]; rfl) (by trivial) ?_
      refine AW.if (by simp -implicitDefEqProofs only [go_sem, hf, nn, ht15]; rfl) (fun ht15_2 => ?_) (fun ht15_2 => ?_)
      · refine AW.skip ?_
        exact ⟨by simp -implicitDefEqProofs only [go_sem], by simp -implicitDefEqProofs only [go_sem, hf, nn, ht15, ht15_2, k1]; try simp [hf, nn, ht15, ht15_2, k1]⟩
      · refine AW.runs [] (by simp -implicitDefEqProofs only [go_sem, hf, nn, ht15, ht15_2]; rfl) (by trivial) ?_
        refine AW.if (by simp -implicitDefEqProofs only [go_sem, hf, nn, ht15, ht15_2]; rfl) (fun ht15_3 => ?_) (fun ht15_3 => ?_)
        · refine AW.skip ?_
          exact ⟨by simp -implicitDefEqProofs only [go_sem], by simp -implicitDefEqProofs only [go_sem, hf, nn, ht15, ht15_2, ht15_3, k1]; try simp [hf, nn, ht15, ht15_2, ht15_3, k1]⟩
        · refine AW.runs [] (by simp -implicitDefEqProofs only [go_sem, hf, nn, ht15, ht15_2, ht15_3]; rfl) (by trivial) ?_
          refine AW.if (by simp -implicitDefEqProofs only [go_sem, hf, nn, ht15, ht15_2, ht15_3]; rfl) (fun ht15_4 => ?_) (fun ht15_4 => ?_)
          · refine AW.skip ?_
            exact ⟨by simp -implicitDefEqProofs only [go_sem], by simp -implicitDefEqProofs only [go_sem, hf, nn, ht15, ht15_2, ht15_3, ht15_4, k1]; try simp [hf, nn, ht15, ht15_2, ht15_3, ht15_4, k1]⟩
          · refine AW.run [] (by simp -implicitDefEqProofs only [go_sem, hf, nn, ht15, ht15_2, ht15_3, ht15_4]; rfl) (by trivial) ?_
            exact ⟨by simp -implicitDefEqProofs only [go_sem], by simp -implicitDefEqProofs only [go_sem, hf, nn, ht15, ht15_2, ht15_3, ht15_4, k1]; try simp [hf, nn, ht15, ht15_2, ht15_3, ht15_4, k1]⟩
  · refine AW.if (by simp -implicitDefEqProofs only [go_sem, hf, nn]; rfl) (fun ht15_5 => ?_) (fun ht15_5 => ?_)
    · refine AW.runs [] (by simp -implicitDefEqProofs only [go_sem, hf, nn, ht15_5]; rfl) (by trivial) ?_
      exact AW.ret ⟨.inl rfl, _, rfl, by simp -implicitDefEqProofs only [go_sem, hf, nn, ht15_5, knownOf]⟩
    · refine AW.runs [] (by simp -implicitDefEqProofs only [go_sem, hf, nn, ht15_5]; rfl) (by trivial) ?_
      refine AW.if (by simp -implicitDefEqProofs only [go_sem, hf, nn, ht15_5]; rfl) (fun ht21 => ?_) (fun ht21 => ?_)
      · cases hc1 : decide (x.num ≥ 0)
        · refine AW.runs [] (by simp -implicitDefEqProofs only [go_sem, hf, nn, ht15_5, ht21, hc1]; rfl) (by trivial) ?_
          exact AW.ret ⟨.inl rfl, _, rfl, by simp -implicitDefEqProofs only [go_sem, hf, nn, ht15_5, ht21, hc1, knownOf]⟩
        · refine AW.runs [] (by simp -implicitDefEqProofs only [go_sem, hf, nn, ht15_5, ht21, hc1]; rfl) (by trivial) ?_
          exact AW.ret ⟨.inl rfl, _, rfl, by simp -implicitDefEqProofs only [go_sem, hf, nn, ht15_5, ht21, hc1, knownOf]⟩
      · refine AW.join [(1, .int .i64 n), (3, .box g0 (untRow u)), (5, .box (g0 + 1) (insRow x)), (7, .box (g0 + 2) (fnRow f)), (14, .int .u8 x.op), (33, .bool (k2 x.op))] 142 ?_ (fun g2 => ?_)
        · refine AW.runs [] (by simp -implicitDefEqProofs only [go_sem, hf, nn, ht15_5, ht21]; rfl) (by trivial) ?_
          refine AW.if (by simp -implicitDefEqProofs only [go_sem, hf, nn, ht15_5, ht21]; rfl) (fun ht33 => ?_) (fun ht33 => ?_)
          · refine AW.skip ?_
            exact ⟨by simp -implicitDefEqProofs only [go_sem], by simp -implicitDefEqProofs only [go_sem, hf, nn, ht15_5, ht21, ht33, k2]; try simp [hf, nn, ht15_5, ht21, ht33, k2]⟩
          · refine AW.runs [] (by simp -implicitDefEqProofs only [go_sem, hf, nn, ht15_5, ht21, ht33]; rfl) (by trivial) ?_
            refine AW.if (by simp -implicitDefEqProofs only [go_sem, hf, nn, ht15_5, ht21, ht33]; rfl) (fun ht33_2 => ?_) (fun ht33_2 => ?_)
            · refine AW.skip ?_
              exact ⟨by simp -implicitDefEqProofs only [go_sem], by simp -implicitDefEqProofs only [go_sem, hf, nn, ht15_5, ht21, ht33, ht33_2, k2]; try simp [hf, nn, ht15_5, ht21, ht33, ht33_2, k2]⟩
            · refine AW.run [] (by simp -implicitDefEqProofs only [go_sem, hf, nn, ht15_5, ht21, ht33, ht33_2]; rfl) (by trivial) ?_
              exact ⟨by simp -implicitDefEqProofs only [go_sem], by simp -implicitDefEqProofs only [go_sem, hf, nn, ht15_5, ht21, ht33, ht33_2, k2]; try simp [hf, nn, ht15_5, ht21, ht33, ht33_2, k2]⟩
        · refine AW.if (by simp -implicitDefEqProofs only [go_sem, hf, nn, ht15_5, ht21]; rfl) (fun ht33_3 => ?_) (fun ht33_3 => ?_)
          · refine AW.runs [.bool (scalarAt f x.var)] (by simp -implicitDefEqProofs only [go_sem, hf, nn, ht15_5, ht21, ht33_3]; rfl) (ob1 (by have h := (fun103 f x.var).obb; (try simp only [hf, nn, ht15_5, ht21, ht33_3] at h); exact h)) ?_
            exact AW.ret ⟨.inl rfl, _, rfl, by simp -implicitDefEqProofs only [go_sem, hf, nn, ht15_5, ht21, ht33_3, knownOf]⟩
          · refine AW.join [(1, .int .i64 n), (3, .box g0 (untRow u)), (5, .box (g0 + 1) (insRow x)), (7, .box (g0 + 2) (fnRow f)), (14, .int .u8 x.op), (41, .bool (k3 x.op))] 142 ?_ (fun g3 => ?_)
            · refine AW.runs [] (by simp -implicitDefEqProofs only [go_sem, hf, nn, ht15_5, ht21, ht33_3]; rfl) (by trivial) ?_
              refine AW.if (by simp -implicitDefEqProofs only [go_sem, hf, nn, ht15_5, ht21, ht33_3]; rfl) (fun ht41 => ?_) (fun ht41 => ?_)
              · refine AW.skip ?_
                exact ⟨by simp -implicitDefEqProofs only [go_sem], by simp -implicitDefEqProofs only [go_sem, hf, nn, ht15_5, ht21, ht33_3, ht41, k3]; try simp [hf, nn, ht15_5, ht21, ht33_3, ht41, k3]⟩
              · refine AW.run [] (by simp -implicitDefEqProofs only [go_sem, hf, nn, ht15_5, ht21, ht33_3, ht41]; rfl) (by trivial) ?_
                exact ⟨by simp -implicitDefEqProofs only [go_sem], by simp -implicitDefEqProofs only [go_sem, hf, nn, ht15_5, ht21, ht33_3, ht41, k3]; try simp [hf, nn, ht15_5, ht21, ht33_3, ht41, k3]⟩
            · refine AW.if (by simp -implicitDefEqProofs only [go_sem, hf, nn, ht15_5, ht21, ht33_3]; rfl) (fun ht41_2 => ?_) (fun ht41_2 => ?_)
              · refine AW.runs [.bool (arrayAt f x.var)] (by simp -implicitDefEqProofs only [go_sem, hf, nn, ht15_5, ht21, ht33_3, ht41_2]; rfl) (ob1 (by have h := (fun104 f x.var).obb; (try simp only [hf, nn, ht15_5, ht21, ht33_3, ht41_2] at h); exact h)) ?_
                exact AW.ret ⟨.inl rfl, _, rfl, by simp -implicitDefEqProofs only [go_sem, hf, nn, ht15_5, ht21, ht33_3, ht41_2, knownOf]⟩
              · refine AW.join [(1, .int .i64 n), (3, .box g0 (untRow u)), (5, .box (g0 + 1) (insRow x)), (7, .box (g0 + 2) (fnRow f)), (14, .int .u8 x.op), (48, .bool (k4 x.op))] 142 ?_ (fun g4 => ?_)
                · refine AW.runs [] (by simp -implicitDefEqProofs only [go_sem, hf, nn, ht15_5, ht21, ht33_3, ht41_2]; rfl) (by trivial) ?_
                  refine AW.if (by simp -implicitDefEqProofs only [go_sem, hf, nn, ht15_5, ht21, ht33_3, ht41_2]; rfl) (fun ht48 => ?_) (fun ht48 => ?_)
                  · refine AW.skip ?_
                    exact ⟨by simp -implicitDefEqProofs only [go_sem], by simp -implicitDefEqProofs only [go_sem, hf, nn, ht15_5, ht21, ht33_3, ht41_2, ht48, k4]; try simp [hf, nn, ht15_5, ht21, ht33_3, ht41_2, ht48, k4]⟩
                  · refine AW.run [] (by simp -implicitDefEqProofs only [go_sem, hf, nn, ht15_5, ht21, ht33_3, ht41_2, ht48]; rfl) (by trivial) ?_
                    exact ⟨by simp -implicitDefEqProofs only [go_sem], by simp -implicitDefEqProofs only [go_sem, hf, nn, ht15_5, ht21, ht33_3, ht41_2, ht48, k4]; try simp [hf, nn, ht15_5, ht21, ht33_3, ht41_2, ht48, k4]⟩
                · refine AW.if (by simp -implicitDefEqProofs only [go_sem, hf, nn, ht15_5, ht21, ht33_3, ht41_2]; rfl) (fun ht48_2 => ?_) (fun ht48_2 => ?_)
                  · cases hf1 : fieldsAt f x.var
                    · refine AW.has (n := 142) [(5, .box (g0 + 1) (insRow x)), (7, .box (g0 + 2) (fnRow f))] (⟨by simp -implicitDefEqProofs only [go_sem], by simp -implicitDefEqProofs only [go_sem, hf, nn, ht15_5, ht21, ht33_3, ht41_2, ht48_2, hf1]; try simp [hf, nn, ht15_5, ht21, ht33_3, ht41_2, ht48_2, hf1]⟩) (fun g5 => ?_)
                      refine AW.seq ?_
                      refine AW.drw 19 [[], [], [1], [0, 1, 2], [0, 1, 2, 3], [0, 1, 2, 3, 4], [0, 1, 2, 3, 4, 5], [0, 1, 2, 3, 4, 5, 6], [0, 1, 2, 3, 4, 5, 6, 7], [0, 1, 2, 3, 4, 5, 6, 7, 8], [0, 1, 2, 3, 4, 5, 6, 7, 8, 9], [0, 1, 2, 3, 4, 5, 6, 7, 8, 9, 10], [0, 1, 2, 3, 4, 5, 6, 7, 8, 9], [0, 1, 2, 3, 4, 5, 6, 7, 8, 9, 12], [0, 1, 2, 3, 4, 5, 6, 7, 8, 9], [0, 1, 2, 3, 4, 5, 6, 7, 8, 9, 14], [0, 1, 2, 3, 4, 5, 6, 7, 8, 9, 12, 13, 14, 15], [0, 1, 2, 3, 4, 5, 6, 7, 8, 9, 12, 13, 14, 15, 16], [0, 1, 2, 3, 4, 5, 6, 7, 8, 9, 12, 13, 14, 15, 16, 17], [0, 1, 2, 3, 4, 5, 6, 7, 8, 9, 10, 11, 12, 13, 14, 15, 16, 17, 18], [0, 1, 2, 3, 4, 5, 6, 7, 8, 9, 10, 11, 12, 13, 14, 15, 16, 17, 18, 19], [0, 1, 2, 3, 4, 5, 6, 7, 8, 9, 10, 11, 12, 13, 14, 15, 16, 17, 18, 19, 20]] [51, 52, 53, 54, 55, 56, 57, 58, 59, 60, 61, 62, 63, 64, 65, 66, 67, 68, 69] [.bool (fieldsAt f x.var)] [] f_mix (by decide) (by rfl) (by rfl) rfl rfl (by simp -implicitDefEqProofs only [go_sem, hf, nn, ht15_5, ht21, ht33_3, ht41_2, ht48_2, hf1]; rfl) (ob1 (by have h := (fun105 f x.var).obb; (try simp only [hf, nn, ht15_5, ht21, ht33_3, ht41_2, ht48_2, hf1] at h); exact h)) (by simp -implicitDefEqProofs only [go_sem, hf, nn, ht15_5, ht21, ht33_3, ht41_2, ht48_2, hf1]; rfl) (by trivial) ?_
                      show AW _ _ _ _ _
                      exact AW.ret ⟨.inl rfl, _, rfl, by simp -implicitDefEqProofs only [go_sem, hf, nn, ht15_5, ht21, ht33_3, ht41_2, ht48_2, hf1, knownOf]⟩
                    · obtain ⟨m, v, hm, hv⟩ := fieldsAt_some hf1
                      have hw : wordsLt f (m : Int) x.num = decide (x.num < v.words) := by unfold wordsLt; rw [atI_nat, hv]
                      have hf2 : fieldsAt f (m : Int) = true := by rw [← hm]; exact hf1
                      cases hc1 : decide (x.num ≥ 0)
                      · refine AW.has (n := 142) [(5, .box (g0 + 1) (insRow x)), (7, .box (g0 + 2) (fnRow f))] (⟨by simp -implicitDefEqProofs only [go_sem], by simp -implicitDefEqProofs only [go_sem, hf, nn, ht15_5, ht21, ht33_3, ht41_2, ht48_2, hf1, hm, hv, hw, hf2, hc1]; try simp [hf, nn, ht15_5, ht21, ht33_3, ht41_2, ht48_2, hf1, hm, hv, hw, hf2, hc1]⟩) (fun g6 => ?_)
                        refine AW.seq ?_
                        refine AW.drw 19 [[], [], [1], [0, 1, 2], [0, 1, 2, 3], [0, 1, 2, 3, 4], [0, 1, 2, 3, 4, 5], [0, 1, 2, 3, 4, 5, 6], [0, 1, 2, 3, 4, 5, 6, 7], [0, 1, 2, 3, 4, 5, 6, 7, 8], [0, 1, 2, 3, 4, 5, 6, 7, 8, 9], [0, 1, 2, 3, 4, 5, 6, 7, 8, 9, 10], [0, 1, 2, 3, 4, 5, 6, 7, 8, 9], [0, 1, 2, 3, 4, 5, 6, 7, 8, 9, 12], [0, 1, 2, 3, 4, 5, 6, 7, 8, 9], [0, 1, 2, 3, 4, 5, 6, 7, 8, 9, 14], [0, 1, 2, 3, 4, 5, 6, 7, 8, 9, 12, 13, 14, 15], [0, 1, 2, 3, 4, 5, 6, 7, 8, 9, 12, 13, 14, 15, 16], [0, 1, 2, 3, 4, 5, 6, 7, 8, 9, 12, 13, 14, 15, 16, 17], [0, 1, 2, 3, 4, 5, 6, 7, 8, 9, 10, 11, 12, 13, 14, 15, 16, 17, 18], [0, 1, 2, 3, 4, 5, 6, 7, 8, 9, 10, 11, 12, 13, 14, 15, 16, 17, 18, 19], [0, 1, 2, 3, 4, 5, 6, 7, 8, 9, 10, 11, 12, 13, 14, 15, 16, 17, 18, 19, 20]] [51, 52, 53, 54, 55, 56, 57, 58, 59, 60, 61, 62, 63, 64, 65, 66, 67, 68, 69] [.bool (fieldsAt f x.var)] [] f_mix (by decide) (by rfl) (by rfl) rfl rfl (by simp -implicitDefEqProofs only [go_sem, hf, nn, ht15_5, ht21, ht33_3, ht41_2, ht48_2, hf1, hm, hv, hw, hf2, hc1]; rfl) (ob1 (by have h := (fun105 f x.var).obb; (try simp only [hf, nn, ht15_5, ht21, ht33_3, ht41_2, ht48_2, hf1, hm, hv, hw, hf2, hc1] at h); exact h)) (by simp -implicitDefEqProofs only [go_sem, hf, nn, ht15_5, ht21, ht33_3, ht41_2, ht48_2, hf1, hm, hv, hw, hf2, hc1]; rfl) (by trivial) ?_
                        show AW _ _ _ _ _
                        exact AW.ret ⟨.inl rfl, _, rfl, by simp -implicitDefEqProofs only [go_sem, hf, nn, ht15_5, ht21, ht33_3, ht41_2, ht48_2, hf1, hm, hv, hw, hf2, hc1, knownOf]⟩
                      · refine AW.has (n := 142) [(5, .box (g0 + 1) (insRow x)), (7, .box (g0 + 2) (fnRow f))] (⟨by simp -implicitDefEqProofs only [go_sem], by simp -implicitDefEqProofs only [go_sem, hf, nn, ht15_5, ht21, ht33_3, ht41_2, ht48_2, hf1, hm, hv, hw, hf2, hc1]; try simp [hf, nn, ht15_5, ht21, ht33_3, ht41_2, ht48_2, hf1, hm, hv, hw, hf2, hc1]⟩) (fun g7 => ?_)
                        refine AW.seq ?_
                        refine AW.drw 19 [[], [], [1], [0, 1, 2], [0, 1, 2, 3], [0, 1, 2, 3, 4], [0, 1, 2, 3, 4, 5], [0, 1, 2, 3, 4, 5, 6], [0, 1, 2, 3, 4, 5, 6, 7], [0, 1, 2, 3, 4, 5, 6, 7, 8], [0, 1, 2, 3, 4, 5, 6, 7, 8, 9], [0, 1, 2, 3, 4, 5, 6, 7, 8, 9, 10], [0, 1, 2, 3, 4, 5, 6, 7, 8, 9], [0, 1, 2, 3, 4, 5, 6, 7, 8, 9, 12], [0, 1, 2, 3, 4, 5, 6, 7, 8, 9], [0, 1, 2, 3, 4, 5, 6, 7, 8, 9, 14], [0, 1, 2, 3, 4, 5, 6, 7, 8, 9, 12, 13, 14, 15], [0, 1, 2, 3, 4, 5, 6, 7, 8, 9, 12, 13, 14, 15, 16], [0, 1, 2, 3, 4, 5, 6, 7, 8, 9, 12, 13, 14, 15, 16, 17], [0, 1, 2, 3, 4, 5, 6, 7, 8, 9, 10, 11, 12, 13, 14, 15, 16, 17, 18], [0, 1, 2, 3, 4, 5, 6, 7, 8, 9, 10, 11, 12, 13, 14, 15, 16, 17, 18, 19], [0, 1, 2, 3, 4, 5, 6, 7, 8, 9, 10, 11, 12, 13, 14, 15, 16, 17, 18, 19, 20]] [51, 52, 53, 54, 55, 56, 57, 58, 59, 60, 61, 62, 63, 64, 65, 66, 67, 68, 69] [.bool (fieldsAt f x.var)] [] f_mix (by decide) (by rfl) (by rfl) rfl rfl (by simp -implicitDefEqProofs only [go_sem, hf, nn, ht15_5, ht21, ht33_3, ht41_2, ht48_2, hf1, hm, hv, hw, hf2, hc1]; rfl) (ob1 (by have h := (fun105 f x.var).obb; (try simp only [hf, nn, ht15_5, ht21, ht33_3, ht41_2, ht48_2, hf1, hm, hv, hw, hf2, hc1] at h); exact h)) (by simp -implicitDefEqProofs only [go_sem, hf, nn, ht15_5, ht21, ht33_3, ht41_2, ht48_2, hf1, hm, hv, hw, hf2, hc1]; rfl) (by trivial) ?_
                        show AW _ _ _ _ _
                        exact AW.ret ⟨.inl rfl, _, rfl, by simp -implicitDefEqProofs only [go_sem, hf, nn, ht15_5, ht21, ht33_3, ht41_2, ht48_2, hf1, hm, hv, hw, hf2, hc1, knownOf]⟩
                  · refine AW.runs [] (by simp -implicitDefEqProofs only [go_sem, hf, nn, ht15_5, ht21, ht33_3, ht41_2, ht48_2]; rfl) (by trivial) ?_
                    refine AW.if (by simp -implicitDefEqProofs only [go_sem, hf, nn, ht15_5, ht21, ht33_3, ht41_2, ht48_2]; rfl) (fun ht72 => ?_) (fun ht72 => ?_)
                    · cases ha : arrayAt f x.var
                      · refine AW.runs [.bool (arrayAt f x.var), .bool (fieldsAt f x.var)] (by simp -implicitDefEqProofs only [go_sem, hf, nn, ht15_5, ht21, ht33_3, ht41_2, ht48_2, ht72, ha]; rfl) (ob2 (by have h := (fun104 f x.var).obb; (try simp only [hf, nn, ht15_5, ht21, ht33_3, ht41_2, ht48_2, ht72, ha] at h); exact h) (by have h := (fun105 f x.var).obb; (try simp only [hf, nn, ht15_5, ht21, ht33_3, ht41_2, ht48_2, ht72, ha] at h); exact h)) ?_
                        exact AW.ret ⟨.inl rfl, _, rfl, by simp -implicitDefEqProofs only [go_sem, hf, nn, ht15_5, ht21, ht33_3, ht41_2, ht48_2, ht72, ha, knownOf]⟩
                      · refine AW.runs [.bool (arrayAt f x.var)] (by simp -implicitDefEqProofs only [go_sem, hf, nn, ht15_5, ht21, ht33_3, ht41_2, ht48_2, ht72, ha]; rfl) (ob1 (by have h := (fun104 f x.var).obb; (try simp only [hf, nn, ht15_5, ht21, ht33_3, ht41_2, ht48_2, ht72, ha] at h); exact h)) ?_
                        exact AW.ret ⟨.inl rfl, _, rfl, by simp -implicitDefEqProofs only [go_sem, hf, nn, ht15_5, ht21, ht33_3, ht41_2, ht48_2, ht72, ha, knownOf]⟩
                    · refine AW.runs [] (by simp -implicitDefEqProofs only [go_sem, hf, nn, ht15_5, ht21, ht33_3, ht41_2, ht48_2, ht72]; rfl) (by trivial) ?_
                      refine AW.if (by simp -implicitDefEqProofs only [go_sem, hf, nn, ht15_5, ht21, ht33_3, ht41_2, ht48_2, ht72]; rfl) (fun ht84 => ?_) (fun ht84 => ?_)
                      · cases hn1 : decide (x.num ≥ 0)
                        · refine AW.has (n := 142) [(3, .box g0 (untRow u)), (5, .box (g0 + 1) (insRow x))] (⟨by simp -implicitDefEqProofs only [go_sem], by simp -implicitDefEqProofs only [go_sem, hf, nn, ht15_5, ht21, ht33_3, ht41_2, ht48_2, ht72, ht84, hn1]; try simp [hf, nn, ht15_5, ht21, ht33_3, ht41_2, ht48_2, ht72, ht84, hn1]⟩) (fun g8 => ?_)
                          refine AW.seq ?_
                          refine AW.drw 22 [[], [0], [0, 1], [0, 1, 2], [0, 1, 2, 3], [0, 1, 2, 3, 4], [0, 1, 2, 3], [0, 1, 2, 3, 6], [0, 1, 2, 3, 6, 7], [0, 1, 2, 3, 4, 5, 6, 7, 8], [0, 1, 2, 3, 4, 5, 6, 7, 8, 9], [0, 1, 2, 3, 4, 5, 6, 7, 8, 9, 10], [0, 1, 2, 3, 4, 5, 6, 7, 8, 9, 10, 11], [0, 1, 2, 3, 4, 5, 6, 7, 8, 9, 10, 11, 12], [0, 1, 2, 3, 4, 5, 6, 7, 8, 9, 10, 11, 12, 13], [0, 1, 2, 3, 4, 5, 6, 7, 8, 9, 10, 11], [0, 1, 2, 3, 4, 5, 6, 7, 8, 9, 10, 11, 15], [0, 1, 2, 3, 4, 5, 6, 7, 8, 9, 10, 11], [0, 1, 2, 3, 4, 5, 6, 7, 8, 9, 10, 11, 17], [0, 1, 2, 3, 4, 5, 6, 7, 8, 9, 10, 11, 15, 16, 17, 18], [0, 1, 2, 3, 4, 5, 6, 7, 8, 9, 10, 11, 15, 16, 17, 18, 19], [0, 1, 2, 3, 4, 5, 6, 7, 8, 9, 10, 11, 15, 16, 17, 18, 19, 20], [0, 1, 2, 3, 4, 5, 6, 7, 8, 9, 10, 11, 12, 13, 14, 15, 16, 17, 18, 19, 20, 21], [0, 1, 2, 3, 4, 5, 6, 7, 8, 9, 10, 11, 12, 13, 14, 15, 16, 17, 18, 19, 20, 21, 22], [0, 1, 2, 3, 4, 5, 6, 7, 8, 9, 10, 11, 12, 13, 14, 15, 16, 17, 18, 19, 20, 21, 22, 23]] [86, 87, 88, 89, 90, 91, 92, 93, 94, 95, 96, 97, 98, 99, 100, 101, 102, 103, 104, 105, 106, 107] [] [] f_mix (by decide) (by rfl) (by rfl) rfl rfl (by simp -implicitDefEqProofs only [go_sem, hf, nn, ht15_5, ht21, ht33_3, ht41_2, ht48_2, ht72, ht84, hn1]; rfl) (by trivial) (by simp -implicitDefEqProofs only [go_sem, hf, nn, ht15_5, ht21, ht33_3, ht41_2, ht48_2, ht72, ht84, hn1]; rfl) (by trivial) ?_
                          show AW _ _ _ _ _
                          exact AW.ret ⟨.inl rfl, _, rfl, by simp -implicitDefEqProofs only [go_sem, hf, nn, ht15_5, ht21, ht33_3, ht41_2, ht48_2, ht72, ht84, hn1, knownOf]⟩
                        · obtain ⟨m, hm⟩ := Int.eq_ofNat_of_zero_le (of_decide_eq_true hn1)
                          cases hn2 : decide ((m : Int) < (u.funcs.length : Int))
                          · have ha : argsFit u (m : Int) x.args.length = false := by unfold argsFit; rw [atI_nat, natlt_f hn2 rfl]
                            refine AW.has (n := 142) [(3, .box g0 (untRow u)), (5, .box (g0 + 1) (insRow x))] (⟨by simp -implicitDefEqProofs only [go_sem], by simp -implicitDefEqProofs only [go_sem, hf, nn, ht15_5, ht21, ht33_3, ht41_2, ht48_2, ht72, ht84, hn1, hm, hn2, ha]; try simp [hf, nn, ht15_5, ht21, ht33_3, ht41_2, ht48_2, ht72, ht84, hn1, hm, hn2, ha]⟩) (fun g9 => ?_)
                            refine AW.seq ?_
                            refine AW.drw 22 [[], [0], [0, 1], [0, 1, 2], [0, 1, 2, 3], [0, 1, 2, 3, 4], [0, 1, 2, 3], [0, 1, 2, 3, 6], [0, 1, 2, 3, 6, 7], [0, 1, 2, 3, 4, 5, 6, 7, 8], [0, 1, 2, 3, 4, 5, 6, 7, 8, 9], [0, 1, 2, 3, 4, 5, 6, 7, 8, 9, 10], [0, 1, 2, 3, 4, 5, 6, 7, 8, 9, 10, 11], [0, 1, 2, 3, 4, 5, 6, 7, 8, 9, 10, 11, 12], [0, 1, 2, 3, 4, 5, 6, 7, 8, 9, 10, 11, 12, 13], [0, 1, 2, 3, 4, 5, 6, 7, 8, 9, 10, 11], [0, 1, 2, 3, 4, 5, 6, 7, 8, 9, 10, 11, 15], [0, 1, 2, 3, 4, 5, 6, 7, 8, 9, 10, 11], [0, 1, 2, 3, 4, 5, 6, 7, 8, 9, 10, 11, 17], [0, 1, 2, 3, 4, 5, 6, 7, 8, 9, 10, 11, 15, 16, 17, 18], [0, 1, 2, 3, 4, 5, 6, 7, 8, 9, 10, 11, 15, 16, 17, 18, 19], [0, 1, 2, 3, 4, 5, 6, 7, 8, 9, 10, 11, 15, 16, 17, 18, 19, 20], [0, 1, 2, 3, 4, 5, 6, 7, 8, 9, 10, 11, 12, 13, 14, 15, 16, 17, 18, 19, 20, 21], [0, 1, 2, 3, 4, 5, 6, 7, 8, 9, 10, 11, 12, 13, 14, 15, 16, 17, 18, 19, 20, 21, 22], [0, 1, 2, 3, 4, 5, 6, 7, 8, 9, 10, 11, 12, 13, 14, 15, 16, 17, 18, 19, 20, 21, 22, 23]] [86, 87, 88, 89, 90, 91, 92, 93, 94, 95, 96, 97, 98, 99, 100, 101, 102, 103, 104, 105, 106, 107] [] [] f_mix (by decide) (by rfl) (by rfl) rfl rfl (by simp -implicitDefEqProofs only [go_sem, hf, nn, ht15_5, ht21, ht33_3, ht41_2, ht48_2, ht72, ht84, hn1, hm, hn2, ha]; rfl) (by trivial) (by simp -implicitDefEqProofs only [go_sem, hf, nn, ht15_5, ht21, ht33_3, ht41_2, ht48_2, ht72, ht84, hn1, hm, hn2, ha]; rfl) (by trivial) ?_
                            show AW _ _ _ _ _
                            exact AW.ret ⟨.inl rfl, _, rfl, by simp -implicitDefEqProofs only [go_sem, hf, nn, ht15_5, ht21, ht33_3, ht41_2, ht48_2, ht72, ht84, hn1, hm, hn2, ha, knownOf]⟩
                          · obtain ⟨g, hg⟩ := natlt_t hn2
                            have ha : argsFit u (m : Int) x.args.length = ((x.args.length : Int) == g.params) := by unfold argsFit; rw [atI_nat, hg]
                            refine AW.has (n := 142) [(3, .box g0 (untRow u)), (5, .box (g0 + 1) (insRow x))] (⟨by simp -implicitDefEqProofs only [go_sem], by simp -implicitDefEqProofs only [go_sem, hf, nn, ht15_5, ht21, ht33_3, ht41_2, ht48_2, ht72, ht84, hn1, hm, hn2, hg, ha]; try simp [hf, nn, ht15_5, ht21, ht33_3, ht41_2, ht48_2, ht72, ht84, hn1, hm, hn2, hg, ha]⟩) (fun g10 => ?_)
                            refine AW.seq ?_
                            refine AW.drw 22 [[], [0], [0, 1], [0, 1, 2], [0, 1, 2, 3], [0, 1, 2, 3, 4], [0, 1, 2, 3], [0, 1, 2, 3, 6], [0, 1, 2, 3, 6, 7], [0, 1, 2, 3, 4, 5, 6, 7, 8], [0, 1, 2, 3, 4, 5, 6, 7, 8, 9], [0, 1, 2, 3, 4, 5, 6, 7, 8, 9, 10], [0, 1, 2, 3, 4, 5, 6, 7, 8, 9, 10, 11], [0, 1, 2, 3, 4, 5, 6, 7, 8, 9, 10, 11, 12], [0, 1, 2, 3, 4, 5, 6, 7, 8, 9, 10, 11, 12, 13], [0, 1, 2, 3, 4, 5, 6, 7, 8, 9, 10, 11], [0, 1, 2, 3, 4, 5, 6, 7, 8, 9, 10, 11, 15], [0, 1, 2, 3, 4, 5, 6, 7, 8, 9, 10, 11], [0, 1, 2, 3, 4, 5, 6, 7, 8, 9, 10, 11, 17], [0, 1, 2, 3, 4, 5, 6, 7, 8, 9, 10, 11, 15, 16, 17, 18], [0, 1, 2, 3, 4, 5, 6, 7, 8, 9, 10, 11, 15, 16, 17, 18, 19], [0, 1, 2, 3, 4, 5, 6, 7, 8, 9, 10, 11, 15, 16, 17, 18, 19, 20], [0, 1, 2, 3, 4, 5, 6, 7, 8, 9, 10, 11, 12, 13, 14, 15, 16, 17, 18, 19, 20, 21], [0, 1, 2, 3, 4, 5, 6, 7, 8, 9, 10, 11, 12, 13, 14, 15, 16, 17, 18, 19, 20, 21, 22], [0, 1, 2, 3, 4, 5, 6, 7, 8, 9, 10, 11, 12, 13, 14, 15, 16, 17, 18, 19, 20, 21, 22, 23]] [86, 87, 88, 89, 90, 91, 92, 93, 94, 95, 96, 97, 98, 99, 100, 101, 102, 103, 104, 105, 106, 107] [] [] f_mix (by decide) (by rfl) (by rfl) rfl rfl (by simp -implicitDefEqProofs only [go_sem, hf, nn, ht15_5, ht21, ht33_3, ht41_2, ht48_2, ht72, ht84, hn1, hm, hn2, hg, ha]; rfl) (by trivial) (by simp -implicitDefEqProofs only [go_sem, hf, nn, ht15_5, ht21, ht33_3, ht41_2, ht48_2, ht72, ht84, hn1, hm, hn2, hg, ha]; rfl) (by trivial) ?_
                            show AW _ _ _ _ _
                            exact AW.ret ⟨.inl rfl, _, rfl, by simp -implicitDefEqProofs only [go_sem, hf, nn, ht15_5, ht21, ht33_3, ht41_2, ht48_2, ht72, ht84, hn1, hm, hn2, hg, ha, knownOf]⟩
                      · refine AW.runs [] (by simp -implicitDefEqProofs only [go_sem, hf, nn, ht15_5, ht21, ht33_3, ht41_2, ht48_2, ht72, ht84]; rfl) (by trivial) ?_
                        refine AW.if (by simp -implicitDefEqProofs only [go_sem, hf, nn, ht15_5, ht21, ht33_3, ht41_2, ht48_2, ht72, ht84]; rfl) (fun ht110 => ?_) (fun ht110 => ?_)
                        · cases hn1 : decide (x.num ≥ 0)
                          · refine AW.runs [] (by simp -implicitDefEqProofs only [go_sem, hf, nn, ht15_5, ht21, ht33_3, ht41_2, ht48_2, ht72, ht84, ht110, hn1]; rfl) (by trivial) ?_
                            exact AW.ret ⟨.inl rfl, _, rfl, by simp -implicitDefEqProofs only [go_sem, hf, nn, ht15_5, ht21, ht33_3, ht41_2, ht48_2, ht72, ht84, ht110, hn1, knownOf]⟩
                          · obtain ⟨m, hm⟩ := Int.eq_ofNat_of_zero_le (of_decide_eq_true hn1)
                            cases hn2 : decide ((m : Int) < (u.points.length : Int))
                            · have ha : pointOf u (m : Int) n = false := by unfold pointOf; rw [atI_nat, natlt_f hn2 rfl]
                              refine AW.runs [] (by simp -implicitDefEqProofs only [go_sem, hf, nn, ht15_5, ht21, ht33_3, ht41_2, ht48_2, ht72, ht84, ht110, hn1, hm, hn2, ha]; rfl) (by trivial) ?_
                              exact AW.ret ⟨.inl rfl, _, rfl, by simp -implicitDefEqProofs only [go_sem, hf, nn, ht15_5, ht21, ht33_3, ht41_2, ht48_2, ht72, ht84, ht110, hn1, hm, hn2, ha, knownOf]⟩
                            · obtain ⟨g, hg⟩ := natlt_t hn2
                              have ha : pointOf u (m : Int) n = (g.func == (n : Int)) := by unfold pointOf; rw [atI_nat, hg]
                              refine AW.runs [] (by simp -implicitDefEqProofs only [go_sem, hf, nn, ht15_5, ht21, ht33_3, ht41_2, ht48_2, ht72, ht84, ht110, hn1, hm, hn2, hg, ha]; rfl) (by trivial) ?_
                              exact AW.ret ⟨.inl rfl, _, rfl, by simp -implicitDefEqProofs only [go_sem, hf, nn, ht15_5, ht21, ht33_3, ht41_2, ht48_2, ht72, ht84, ht110, hn1, hm, hn2, hg, ha, knownOf]⟩
                        · refine AW.skip ?_
                          show AW _ _ _ _ _
                          cases hg1 : decide (x.op ≥ 1)
                          · refine AW.runs [] (by simp -implicitDefEqProofs only [go_sem, hf, nn, ht15_5, ht21, ht33_3, ht41_2, ht48_2, ht72, ht84, ht110, hg1]; rfl) (by trivial) ?_
                            exact AW.ret ⟨.inl rfl, _, rfl, by simp -implicitDefEqProofs only [go_sem, hf, nn, ht15_5, ht21, ht33_3, ht41_2, ht48_2, ht72, ht84, ht110, hg1, knownOf]⟩
                          · refine AW.runs [] (by simp -implicitDefEqProofs only [go_sem, hf, nn, ht15_5, ht21, ht33_3, ht41_2, ht48_2, ht72, ht84, ht110, hg1]; rfl) (by trivial) ?_
                            exact AW.ret ⟨.inl rfl, _, rfl, by simp -implicitDefEqProofs only [go_sem, hf, nn, ht15_5, ht21, ht33_3, ht41_2, ht48_2, ht72, ht84, ht110, hg1, knownOf]⟩
end Go.Proofs.Ytgoajlgkbcongaa.Vm
end
