/- The abstract machine, first part: values, frames and single operations of the model, for every program. -/
import Derived.WalkKit
import Derived.KernelRfl
import Derived.Below
import Derived.Laws.Cells
import Derived.Laws.Strings
import Derived.Deep.OwnRows
import Derived.Great.BuildSlice
import Derived.Laws.Tables
import Derived.Maps.AppendAt
section
set_option linter.unusedVariables false
set_option linter.unusedSimpArgs false
namespace Go.Proofs.Ytgoajlgkbcongaa.Vm
open Go Go.RowKit
abbrev Pl := Nat × List (Nat × Nat)
/-- Abstract values. fz: a slice that nobody writes any more; own: a slice that lies where it stands and nowhere else; box: a variable in memory. -/
inductive AV where
  | undef
  | int (k : IntKind) (n : Int)
  | bool (b : Bool)
  | str (s : ByteArray)
  | fn (f : FuncId)
  | nil
  | fz (rows : List (List AV))
  | own (id sz : Nat) (rows : List (List AV))
  | box (id : Nat) (cells : List AV)
  | mp (id : Nat) (ks vs : List AV)
  | agg (vs : List AV)
  | tup (vs : List AV)
  | clo (f : FuncId) (caps : List AV)
  | bor (p : Pl) (id : Nat)
  | adr (p : Pl) (id sz j k : Nat)
  | fad (row : List AV) (k : Nat)
  deriving Inhabited
def cell (rows : List (List AV)) (j k : Nat) : Option AV := (rows[j]?).bind (·[k]?)
abbrev FP := Nat → Prop
structure Cx where
  w : World
  D : FP
  η : Nat → Value
  g : Nat
def blockOf : Value → Option Nat
  | .slice (some a) _ _ => some a.block
  | .pointer (some a) => some a.block
  | _ => none
/-- What an abstract value says of a concrete one that nobody writes any more: it is read out of blocks that are not in D. -/
inductive FZ (w : World) (D : FP) : AV → Value → Prop where
  | undef (cv : Value) : FZ w D .undef cv
  | int (k : IntKind) (n : Int) : FZ w D (.int k n) (.int k n)
  | bool (b : Bool) : FZ w D (.bool b) (.bool b)
  | str (s : ByteArray) : FZ w D (.str s) (.string s)
  | fn (f : FuncId) : FZ w D (.fn f) (.func (.func f) #[] #[])
  | nil : FZ w D .nil (.slice none 0 0)
  | fz (rows : List (List AV)) (A : Option Addr) (n cap sz : Nat) (cvs : Nat → Nat → Value) (hn : rows.length = n) (hsz : ∀ row ∈ rows, row.length = sz) (hcap : n ≤ cap) (hmax : n ≤ 9223372036854775807)
      (hcell : 0 < n → ∃ b o, A = some ⟨b, o, none⟩ ∧ b < w.heap.size ∧ ¬ D b ∧ ∀ j k v, cell rows j k = some v → w.cell? ⟨b, o + (j * sz + k), none⟩ = some (cvs j k))
      (hv : ∀ j k v, cell rows j k = some v → FZ w D v (cvs j k)) (hone : ∀ j k v, cell rows j k = some v → (cvs j k).oneCell' = true) : FZ w D (.fz rows) (.slice A n cap)
  | agg (vs : List AV) (cvs : Array Value) (hn : cvs.size = vs.length) (hv : ∀ (k : Nat) (v : AV) (cv : Value), vs[k]? = some v → cvs[k]? = some cv → FZ w D v cv) : FZ w D (.agg vs) (.agg cvs)
  | tup (vs : List AV) (cvs : Array Value) (hn : cvs.size = vs.length) (hv : ∀ (k : Nat) (v : AV) (cv : Value), vs[k]? = some v → cvs[k]? = some cv → FZ w D v cv) : FZ w D (.tup vs) (.tuple cvs)
  | clo (f : FuncId) (vs : List AV) (cvs : Array Value) (hn : cvs.size = vs.length) (hv : ∀ (k : Nat) (v : AV) (cv : Value), vs[k]? = some v → cvs[k]? = some cv → FZ w D v cv) : FZ w D (.clo f vs) (.func (.func f) #[] cvs)
  | fad (row : List AV) (k b o : Nat) (cvs : Nat → Value) (hlt : b < w.heap.size) (hD : ¬ D b) (hcell : ∀ i v, row[i]? = some v → w.cell? ⟨b, o + i, none⟩ = some (cvs i))
      (hv : ∀ i v, row[i]? = some v → FZ w D v (cvs i)) (hone : ∀ i v, row[i]? = some v → (cvs i).oneCell' = true) : FZ w D (.fad row k) (.pointer (some ⟨b, o + k, none⟩))
/-- What an abstract value says of a concrete one; the last: the blocks that are its own. -/
inductive VR (C : Cx) : AV → Value → FP → Prop where
  | lit (v : AV) (cv : Value) (h : FZ C.w C.D v cv) : VR C v cv (fun _ => False)
  | ownNil (id sz : Nat) (hid : id < C.g) (hη : C.η id = .slice none 0 0) : VR C (.own id sz []) (.slice none 0 0) (fun _ => False)
  | own (id sz : Nat) (rows : List (List AV)) (b n cap e : Nat) (cur : Array Value) (cvs : Nat → Nat → Value) (Fc : Nat → Nat → FP) (F : FP) (hid : id < C.g) (hη : C.η id = .slice (some ⟨b, 0, none⟩) n cap)
      (hn : rows.length = n) (hsz : ∀ row ∈ rows, row.length = sz) (hcap : n ≤ cap) (hmax : cap ≤ 9223372036854775807) (hb : C.w.heap[b]? = some (.cells cur e (0, 0))) (hcur : cur.size = cap * sz) (hone : ∀ (i : Nat) (u : Value), cur[i]? = some u → u.oneCell' = true)
      (hcell : ∀ j k v, cell rows j k = some v → cur[j * sz + k]? = some (cvs j k))
      (hv : ∀ j k v, cell rows j k = some v → VR C v (cvs j k) (Fc j k))
      (hF : ∀ x, F x ↔ x = b ∨ ∃ j k, (cell rows j k).isSome ∧ Fc j k x)
      (hdis : ∀ j k j' k' x, (cell rows j k).isSome → (cell rows j' k').isSome → Fc j k x → Fc j' k' x → j = j' ∧ k = k')
      (hself : ∀ j k, (cell rows j k).isSome → ¬ Fc j k b) : VR C (.own id sz rows) (.slice (some ⟨b, 0, none⟩) n cap) F
  | box (id : Nat) (cells : List AV) (b e : Nat) (cur : Array Value) (cvs : Nat → Value) (Fc : Nat → FP) (F : FP) (hid : id < C.g) (hη : C.η id = .pointer (some ⟨b, 0, none⟩))
      (hb : C.w.heap[b]? = some (.cells cur e (0, 0))) (hcur : cur.size = cells.length) (hone : ∀ (i : Nat) (u : Value), cur[i]? = some u → u.oneCell' = true)
      (hcell : ∀ k v, cells[k]? = some v → cur[k]? = some (cvs k))
      (hv : ∀ k v, cells[k]? = some v → VR C v (cvs k) (Fc k))
      (hF : ∀ x, F x ↔ x = b ∨ ∃ k, (cells[k]?).isSome ∧ Fc k x)
      (hdis : ∀ k k' x, (cells[k]?).isSome → (cells[k']?).isSome → Fc k x → Fc k' x → k = k')
      (hself : ∀ k, (cells[k]?).isSome → ¬ Fc k b) : VR C (.box id cells) (.pointer (some ⟨b, 0, none⟩)) F
  | mp (id : Nat) (ks vs : List AV) (b clock : Nat) (es : Array MapEntry) (hid : id < C.g) (hη : C.η id = .map (some b)) (hb : C.w.heap[b]? = some (.map es clock)) (hks : ks.length = es.size) (hvs : vs.length = es.size)
      (hk : ∀ (i : Nat) (k : AV) (e : MapEntry), ks[i]? = some k → es[i]? = some e → FZ C.w C.D k e.key) (hv : ∀ (i : Nat) (v : AV) (e : MapEntry), vs[i]? = some v → es[i]? = some e → FZ C.w C.D v e.val) : VR C (.mp id ks vs) (.map (some b)) (fun x => x = b)
  | agg (vs : List AV) (cvs : Array Value) (Fc : Nat → FP) (F : FP) (hn : cvs.size = vs.length) (hv : ∀ (k : Nat) (v : AV) (cv : Value), vs[k]? = some v → cvs[k]? = some cv → VR C v cv (Fc k))
      (hF : ∀ x, F x ↔ ∃ k, (vs[k]?).isSome ∧ Fc k x) (hdis : ∀ k k' x, (vs[k]?).isSome → (vs[k']?).isSome → Fc k x → Fc k' x → k = k') : VR C (.agg vs) (.agg cvs) F
  | tup (vs : List AV) (cvs : Array Value) (Fc : Nat → FP) (F : FP) (hn : cvs.size = vs.length) (hv : ∀ (k : Nat) (v : AV) (cv : Value), vs[k]? = some v → cvs[k]? = some cv → VR C v cv (Fc k))
      (hF : ∀ x, F x ↔ ∃ k, (vs[k]?).isSome ∧ Fc k x) (hdis : ∀ k k' x, (vs[k]?).isSome → (vs[k']?).isSome → Fc k x → Fc k' x → k = k') : VR C (.tup vs) (.tuple cvs) F
  | clo (f : FuncId) (vs : List AV) (cvs : Array Value) (Fc : Nat → FP) (F : FP) (hn : cvs.size = vs.length) (hv : ∀ (k : Nat) (v : AV) (cv : Value), vs[k]? = some v → cvs[k]? = some cv → VR C v cv (Fc k))
      (hF : ∀ x, F x ↔ ∃ k, (vs[k]?).isSome ∧ Fc k x) (hdis : ∀ k k' x, (vs[k]?).isSome → (vs[k']?).isSome → Fc k x → Fc k' x → k = k') : VR C (.clo f vs) (.func (.func f) #[] cvs) F
  | bor (p : Pl) (id : Nat) (hid : id < C.g) : VR C (.bor p id) (C.η id) (fun _ => False)
  | adr (p : Pl) (id sz j k b : Nat) (hid : id < C.g) (hb : blockOf (C.η id) = some b) : VR C (.adr p id sz j k) (.pointer (some ⟨b, j * sz + k, none⟩)) (fun _ => False)
/-- One world behind another: what a value that owns F leans on is as it was. -/
structure Compat (C C' : Cx) (F : FP) : Prop where
  g : C.g ≤ C'.g
  η : ∀ id, id < C.g → C'.η id = C.η id
  own : ∀ x, F x → C'.w.heap[x]? = C.w.heap[x]?
  fz : ∀ x, x < C.w.heap.size → ¬ C.D x → C'.w.heap[x]? = C.w.heap[x]? ∧ ¬ C'.D x
theorem Compat.mono {C C' : Cx} {F F' : FP} (h : Compat C C' F) (hs : ∀ x, F' x → F x) : Compat C C' F' := ⟨h.g, h.η, fun x hx => h.own x (hs x hx), h.fz⟩
theorem cell_of_heap {w w' : World} {a : Addr} (h : w'.heap[a.block]? = w.heap[a.block]?) : w'.cell? a = w.cell? a := by
  unfold World.cell?; rw [h]
theorem lt_of_heap {w w' : World} {b : Nat} (h : w'.heap[b]? = w.heap[b]?) (hlt : b < w.heap.size) : b < w'.heap.size := by
  rcases Nat.lt_or_ge b w'.heap.size with h1 | h1
  · exact h1
  · rw [Array.getElem?_eq_none h1, Array.getElem?_eq_getElem hlt] at h; cases h
theorem FZ.mono {w w' : World} {D D' : FP} {v : AV} {cv : Value} (h : FZ w D v cv) (hc : ∀ x, x < w.heap.size → ¬ D x → w'.heap[x]? = w.heap[x]? ∧ ¬ D' x) : FZ w' D' v cv := by
  induction h with
  | undef cv => exact .undef cv
  | int k n => exact .int k n
  | bool b => exact .bool b
  | str s => exact .str s
  | fn f => exact .fn f
  | nil => exact .nil
  | fz rows A n cap sz cvs hn hsz hcap hmax hcell hv hone ih =>
    refine .fz rows A n cap sz cvs hn hsz hcap hmax (fun hp => ?_) (fun j k v hj => ih j k v hj) hone
    obtain ⟨b, o, rfl, hlt, hD, hcl⟩ := hcell hp
    obtain ⟨hh, hD'⟩ := hc b hlt hD
    exact ⟨b, o, rfl, lt_of_heap hh hlt, hD', fun j k v hj => (cell_of_heap (a := ⟨b, o + (j * sz + k), none⟩) hh).trans (hcl j k v hj)⟩
  | agg vs cvs hn hv ih => exact .agg vs cvs hn (fun k v cv h1 h2 => ih k v cv h1 h2)
  | tup vs cvs hn hv ih => exact .tup vs cvs hn (fun k v cv h1 h2 => ih k v cv h1 h2)
  | clo f vs cvs hn hv ih => exact .clo f vs cvs hn (fun k v cv h1 h2 => ih k v cv h1 h2)
  | fad row k b o cvs hlt hD hcell hv hone ih =>
    obtain ⟨hh, hD'⟩ := hc b hlt hD
    exact .fad row k b o cvs (lt_of_heap hh hlt) hD' (fun i v hi => (cell_of_heap (a := ⟨b, o + i, none⟩) hh).trans (hcell i v hi)) (fun i v hi => ih i v hi) hone
theorem VR.mono {C C' : Cx} {v : AV} {cv : Value} {F : FP} (h : VR C v cv F) : Compat C C' F → VR C' v cv F := by
  induction h with
  | lit v cv h => intro hc; exact .lit v cv (h.mono hc.fz)
  | ownNil id sz hid hη => intro hc; exact .ownNil id sz (Nat.lt_of_lt_of_le hid hc.g) ((hc.η id hid).trans hη)
  | own id sz rows b n cap e cur cvs Fc F hid hη hn hsz hcap hmax hb hcur hone hcell hv hF hdis hself ih =>
    intro hc
    exact .own id sz rows b n cap e cur cvs Fc F (Nat.lt_of_lt_of_le hid hc.g) ((hc.η id hid).trans hη) hn hsz hcap hmax ((hc.own b ((hF b).2 (.inl rfl))).trans hb) hcur hone hcell
      (fun j k v hj => ih j k v hj (hc.mono fun x hx => (hF x).2 (.inr ⟨j, k, by rw [hj]; rfl, hx⟩))) hF hdis hself
  | box id cells b e cur cvs Fc F hid hη hb hcur hone hcell hv hF hdis hself ih =>
    intro hc
    exact .box id cells b e cur cvs Fc F (Nat.lt_of_lt_of_le hid hc.g) ((hc.η id hid).trans hη) ((hc.own b ((hF b).2 (.inl rfl))).trans hb) hcur hone hcell
      (fun k v hj => ih k v hj (hc.mono fun x hx => (hF x).2 (.inr ⟨k, by rw [hj]; rfl, hx⟩))) hF hdis hself
  | mp id ks vs b clock es hid hη hb hks hvs hk hv =>
    intro hc
    exact .mp id ks vs b clock es (Nat.lt_of_lt_of_le hid hc.g) ((hc.η id hid).trans hη) ((hc.own b rfl).trans hb) hks hvs (fun i k e h1 h2 => (hk i k e h1 h2).mono hc.fz) (fun i v e h1 h2 => (hv i v e h1 h2).mono hc.fz)
  | agg vs cvs Fc F hn hv hF hdis ih =>
    intro hc
    exact .agg vs cvs Fc F hn (fun k v cv h1 h2 => ih k v cv h1 h2 (hc.mono fun x hx => (hF x).2 ⟨k, by rw [h1]; rfl, hx⟩)) hF hdis
  | tup vs cvs Fc F hn hv hF hdis ih =>
    intro hc
    exact .tup vs cvs Fc F hn (fun k v cv h1 h2 => ih k v cv h1 h2 (hc.mono fun x hx => (hF x).2 ⟨k, by rw [h1]; rfl, hx⟩)) hF hdis
  | clo f vs cvs Fc F hn hv hF hdis ih =>
    intro hc
    exact .clo f vs cvs Fc F hn (fun k v cv h1 h2 => ih k v cv h1 h2 (hc.mono fun x hx => (hF x).2 ⟨k, by rw [h1]; rfl, hx⟩)) hF hdis
  | bor p id hid => intro hc; rw [← hc.η id hid]; exact .bor p id (Nat.lt_of_lt_of_le hid hc.g)
  | adr p id sz j k b hid hb => intro hc; exact .adr p id sz j k b (Nat.lt_of_lt_of_le hid hc.g) (by rw [hc.η id hid]; exact hb)
/-- A footprint said otherwise. -/
theorem VR.fp {C : Cx} {v : AV} {cv : Value} {F F' : FP} (h : VR C v cv F) (hF : ∀ x, F' x ↔ F x) : VR C v cv F' := by
  have : F' = F := funext fun x => propext (hF x)
  rw [this]; exact h
end Go.Proofs.Ytgoajlgkbcongaa.Vm
end
section
set_option linter.unusedVariables false
set_option linter.unusedSimpArgs false
namespace Go.Proofs.Ytgoajlgkbcongaa.Vm
open Go Go.RowKit
def setCell (rows : List (List AV)) (j k : Nat) (u : AV) : List (List AV) := rows.modify j (fun row => row.set k u)
theorem cell_set {rows : List (List AV)} {j0 k0 : Nat} (h : (cell rows j0 k0).isSome) (u : AV) (j k : Nat) : cell (setCell rows j0 k0 u) j k = if j = j0 ∧ k = k0 then some u else cell rows j k := by
  unfold cell setCell at *
  rw [List.getElem?_modify]
  by_cases hj : j0 = j
  · subst hj
    cases hr : rows[j0]? with
    | none => simp [hr] at h
    | some row =>
      simp only [hr, Option.bind_some] at h ⊢
      obtain ⟨c, hc⟩ := Option.isSome_iff_exists.1 h
      have hk : k0 < row.length := (List.getElem?_eq_some_iff.1 hc).1
      simp only [if_true, Option.map_eq_map, Option.map_some, Option.bind_some, List.getElem?_set, true_and]
      by_cases hk0 : k0 = k
      · subst hk0; simp [hk]
      · simp [hk0, Ne.symm hk0]
  · have : ¬ (j = j0 ∧ k = k0) := fun h => hj h.1.symm
    simp [hj, this]
theorem setCell_length (rows : List (List AV)) (j k : Nat) (u : AV) : (setCell rows j k u).length = rows.length := by simp [setCell]
theorem setCell_rows {rows : List (List AV)} {sz : Nat} (h : ∀ row ∈ rows, row.length = sz) (j k : Nat) (u : AV) : ∀ row ∈ setCell rows j k u, row.length = sz := by
  intro row hr
  obtain ⟨i, hi⟩ := List.mem_iff_getElem?.1 hr
  unfold setCell at hi
  rw [List.getElem?_modify] at hi
  cases hx : rows[i]? with
  | none => simp [hx] at hi
  | some r =>
    simp only [hx, Option.map_eq_map, Option.map_some, Option.some.injEq] at hi
    have hm := h r (List.mem_of_getElem? hx)
    subst hi
    split <;> simp [hm]
def AV.kid : AV → Nat × Nat → Option AV
  | .own _ _ rows, (j, k) => cell rows j k
  | .box _ cells, (_, k) => cells[k]?
  | .agg vs, (_, k) => vs[k]?
  | .tup vs, (_, k) => vs[k]?
  | .clo _ vs, (_, k) => vs[k]?
  | _, _ => none
def AV.setKid : AV → Nat × Nat → AV → AV
  | .own id sz rows, (j, k), u => .own id sz (setCell rows j k u)
  | .box id cells, (_, k), u => .box id (cells.set k u)
  | .agg vs, (_, k), u => .agg (vs.set k u)
  | .tup vs, (_, k), u => .tup (vs.set k u)
  | .clo f vs, (_, k), u => .clo f (vs.set k u)
  | v, _, _ => v
def getP : List (Nat × Nat) → AV → Option AV
  | [], v => some v
  | s :: p, v => (v.kid s).bind (getP p)
def putP : List (Nat × Nat) → AV → AV → AV
  | [], u, _ => u
  | s :: p, u, v => match v.kid s with
    | some c => v.setKid s (putP p u c)
    | none => v
/-- A part may be told otherwise, where it stands; what stands in the cell stays. -/
def Lens (C : Cx) (v : AV) (cv : Value) (F : FP) (c : AV) (set : AV → AV) : Prop :=
  ∃ cc Fc, VR C c cc Fc ∧ (∀ x, Fc x → F x) ∧ ∀ C' c' Fc', VR C' c' cc Fc' → Compat C C' (fun x => F x ∧ ¬ Fc x) → (∀ x, Fc' x → ¬ (F x ∧ ¬ Fc x)) → VR C' (set c') cv (fun x => (F x ∧ ¬ Fc x) ∨ Fc' x)
theorem getElem?_set_some {α : Type} {l : List α} {k0 : Nat} {c : α} (h : l[k0]? = some c) (u : α) (k : Nat) : (l.set k0 u)[k]? = if k = k0 then some u else l[k]? := by
  have hk := (List.getElem?_eq_some_iff.1 h).1
  rw [List.getElem?_set]
  by_cases e : k0 = k
  · subst e; simp [hk]
  · simp [e, Ne.symm e]
section
variable {C : Cx}
theorem lens_list {vs : List AV} {cvs : Array Value} {Fc : Nat → FP} {F : FP} (hn : cvs.size = vs.length) (hv : ∀ (k : Nat) (v : AV) (cv : Value), vs[k]? = some v → cvs[k]? = some cv → VR C v cv (Fc k))
    (hF : ∀ x, F x ↔ ∃ k, (vs[k]?).isSome ∧ Fc k x) (hdis : ∀ k k' x, (vs[k]?).isSome → (vs[k']?).isSome → Fc k x → Fc k' x → k = k') {k0 : Nat} {c : AV} (h : vs[k0]? = some c) {mk : List AV → AV} {cv : Value}
    (hmk : ∀ C' (vs' : List AV) (Fc' : Nat → FP) (F' : FP), cvs.size = vs'.length → (∀ k v cv, vs'[k]? = some v → cvs[k]? = some cv → VR C' v cv (Fc' k)) → (∀ x, F' x ↔ ∃ k, (vs'[k]?).isSome ∧ Fc' k x) →
      (∀ k k' x, (vs'[k]?).isSome → (vs'[k']?).isSome → Fc' k x → Fc' k' x → k = k') → VR C' (mk vs') cv F') : Lens C (mk vs) cv F c (fun u => mk (vs.set k0 u)) := by
  have hk := (List.getElem?_eq_some_iff.1 h).1
  have hck : cvs[k0]? = some (cvs[k0]'(by omega)) := Array.getElem?_eq_getElem (by omega)
  have hk0 : (vs[k0]?).isSome := by rw [h]; rfl
  refine ⟨_, Fc k0, hv k0 c _ h hck, fun x hx => (hF x).2 ⟨k0, hk0, hx⟩, fun C' c' Fc' hr hc hd => ?_⟩
  refine hmk C' _ (fun k => if k = k0 then Fc' else Fc k) _ (by simp [hn]) (fun k v cv h1 h2 => ?_) (fun x => ?_) (fun k k' x h1 h2 h3 h4 => ?_)
  · rw [getElem?_set_some h] at h1
    by_cases e : k = k0
    · subst e
      simp only [if_true, Option.some.injEq] at h1 ⊢
      subst h1
      rw [hck] at h2
      cases h2
      exact hr
    · simp only [e, if_false] at h1 ⊢
      exact (hv k v cv h1 h2).mono (hc.mono fun x hx => ⟨(hF x).2 ⟨k, by rw [h1]; rfl, hx⟩, fun hx0 => e (hdis k k0 x (by rw [h1]; rfl) hk0 hx hx0)⟩)
  · constructor
    · rintro (⟨hx, hn0⟩ | hx)
      · obtain ⟨k, h1, h2⟩ := (hF x).1 hx
        have e : k ≠ k0 := fun e => hn0 (e ▸ h2)
        exact ⟨k, by rw [getElem?_set_some h]; simpa [e] using h1, by simpa [e] using h2⟩
      · exact ⟨k0, by rw [getElem?_set_some h]; simp, by simpa using hx⟩
    · rintro ⟨k, h1, h2⟩
      by_cases e : k = k0
      · subst e; exact .inr (by simpa using h2)
      · rw [getElem?_set_some h] at h1
        simp only [e, if_false] at h1 h2
        exact .inl ⟨(hF x).2 ⟨k, h1, h2⟩, fun hx0 => e (hdis k k0 x h1 hk0 h2 hx0)⟩
  · rw [getElem?_set_some h] at h1 h2
    by_cases e : k = k0 <;> by_cases e' : k' = k0
    · rw [e, e']
    · subst e
      simp only [if_true, e', if_false] at h1 h2 h3 h4
      exact absurd ⟨(hF x).2 ⟨k', h2, h4⟩, fun hx0 => e' (hdis k' k x h2 hk0 h4 hx0)⟩ (hd x h3)
    · subst e'
      simp only [if_true, e, if_false] at h1 h2 h3 h4
      exact absurd ⟨(hF x).2 ⟨k, h1, h3⟩, fun hx0 => e (hdis k k' x h1 hk0 h3 hx0)⟩ (hd x h4)
    · simp only [e, e', if_false] at h1 h2 h3 h4
      exact hdis k k' x h1 h2 h3 h4
theorem lens_kid {v : AV} {cv : Value} {F : FP} (h : VR C v cv F) {s : Nat × Nat} {c : AV} (hk : v.kid s = some c) : Lens C v cv F c (v.setKid s) := by
  obtain ⟨j0, k0⟩ := s
  cases h with
  | own id sz rows b n cap e cur cvs Fc F hid hη hn hsz hcap hmax hb hcur hone hcell hv hF hdis hself =>
    have hk' : cell rows j0 k0 = some c := hk
    have hs0 : (cell rows j0 k0).isSome := by rw [hk']; rfl
    refine ⟨_, Fc j0 k0, hv j0 k0 c hk', fun x hx => (hF x).2 (.inr ⟨j0, k0, hs0, hx⟩), fun C' c' Fc' hr hc hd => ?_⟩
    have hbF : F b ∧ ¬ Fc j0 k0 b := ⟨(hF b).2 (.inl rfl), hself j0 k0 hs0⟩
    refine .own id sz _ b n cap e cur cvs (fun j k => if j = j0 ∧ k = k0 then Fc' else Fc j k) _ (Nat.lt_of_lt_of_le hid hc.g) ((hc.η id hid).trans hη) (by rw [setCell_length]; exact hn) (setCell_rows hsz _ _ _) hcap hmax
      ((hc.own b hbF).trans hb) hcur hone (fun j k v hj => ?_) (fun j k v hj => ?_) (fun x => ?_) (fun j k j' k' x h1 h2 h3 h4 => ?_) (fun j k h1 => ?_)
    · rw [cell_set hs0] at hj
      by_cases e : j = j0 ∧ k = k0
      · rw [e.1, e.2]; exact hcell j0 k0 c hk'
      · rw [if_neg e] at hj; exact hcell j k v hj
    · rw [cell_set hs0] at hj
      by_cases e : j = j0 ∧ k = k0
      · rw [if_pos e] at hj
        simp only [if_pos e]
        cases hj
        rw [e.1, e.2]
        exact hr
      · rw [if_neg e] at hj
        simp only [if_neg e]
        exact (hv j k v hj).mono (hc.mono fun x hx => ⟨(hF x).2 (.inr ⟨j, k, by rw [hj]; rfl, hx⟩), fun hx0 => e (hdis j k j0 k0 x (by rw [hj]; rfl) hs0 hx hx0)⟩)
    · constructor
      · rintro (⟨hx, hn0⟩ | hx)
        · rcases (hF x).1 hx with rfl | ⟨j, k, h1, h2⟩
          · exact .inl rfl
          · have e : ¬ (j = j0 ∧ k = k0) := fun e => hn0 (by rw [← e.1, ← e.2]; exact h2)
            exact .inr ⟨j, k, by rw [cell_set hs0, if_neg e]; exact h1, by simpa only [if_neg e] using h2⟩
        · exact .inr ⟨j0, k0, by rw [cell_set hs0]; simp, by simpa using hx⟩
      · rintro (rfl | ⟨j, k, h1, h2⟩)
        · exact .inl hbF
        · rw [cell_set hs0] at h1
          by_cases e : j = j0 ∧ k = k0
          · simp only [if_pos e] at h2; exact .inr h2
          · simp only [if_neg e] at h1 h2
            exact .inl ⟨(hF x).2 (.inr ⟨j, k, h1, h2⟩), fun hx0 => e (hdis j k j0 k0 x h1 hs0 h2 hx0)⟩
    · rw [cell_set hs0] at h1 h2
      by_cases e : j = j0 ∧ k = k0 <;> by_cases e' : j' = j0 ∧ k' = k0
      · exact ⟨e.1.trans e'.1.symm, e.2.trans e'.2.symm⟩
      · simp only [if_pos e, if_neg e'] at h1 h2 h3 h4
        exact absurd ⟨(hF x).2 (.inr ⟨j', k', h2, h4⟩), fun hx0 => e' (hdis j' k' j0 k0 x h2 hs0 h4 hx0)⟩ (hd x h3)
      · simp only [if_neg e, if_pos e'] at h1 h2 h3 h4
        exact absurd ⟨(hF x).2 (.inr ⟨j, k, h1, h3⟩), fun hx0 => e (hdis j k j0 k0 x h1 hs0 h3 hx0)⟩ (hd x h4)
      · simp only [if_neg e, if_neg e'] at h1 h2 h3 h4
        exact hdis j k j' k' x h1 h2 h3 h4
    · rw [cell_set hs0] at h1
      by_cases e : j = j0 ∧ k = k0
      · simp only [if_pos e]; exact fun hx => hd b hx hbF
      · simp only [if_neg e] at h1 ⊢; exact hself j k h1
  | box id cells b e cur cvs Fc F hid hη hb hcur hone hcell hv hF hdis hself =>
    have hk' : cells[k0]? = some c := hk
    have hs0 : (cells[k0]?).isSome := by rw [hk']; rfl
    refine ⟨_, Fc k0, hv k0 c hk', fun x hx => (hF x).2 (.inr ⟨k0, hs0, hx⟩), fun C' c' Fc' hr hc hd => ?_⟩
    have hbF : F b ∧ ¬ Fc k0 b := ⟨(hF b).2 (.inl rfl), hself k0 hs0⟩
    refine .box id _ b e cur cvs (fun k => if k = k0 then Fc' else Fc k) _ (Nat.lt_of_lt_of_le hid hc.g) ((hc.η id hid).trans hη) ((hc.own b hbF).trans hb) (by simp [hcur]) hone (fun k v hj => ?_) (fun k v hj => ?_) (fun x => ?_) (fun k k' x h1 h2 h3 h4 => ?_) (fun k h1 => ?_)
    · rw [getElem?_set_some hk'] at hj
      by_cases e : k = k0
      · rw [e]; exact hcell k0 c hk'
      · rw [if_neg e] at hj; exact hcell k v hj
    · rw [getElem?_set_some hk'] at hj
      by_cases e : k = k0
      · rw [if_pos e] at hj
        simp only [if_pos e]
        cases hj
        rw [e]
        exact hr
      · rw [if_neg e] at hj
        simp only [if_neg e]
        exact (hv k v hj).mono (hc.mono fun x hx => ⟨(hF x).2 (.inr ⟨k, by rw [hj]; rfl, hx⟩), fun hx0 => e (hdis k k0 x (by rw [hj]; rfl) hs0 hx hx0)⟩)
    · constructor
      · rintro (⟨hx, hn0⟩ | hx)
        · rcases (hF x).1 hx with rfl | ⟨k, h1, h2⟩
          · exact .inl rfl
          · have e : k ≠ k0 := fun e => hn0 (by rw [← e]; exact h2)
            exact .inr ⟨k, by rw [getElem?_set_some hk', if_neg e]; exact h1, by simpa only [if_neg e] using h2⟩
        · exact .inr ⟨k0, by rw [getElem?_set_some hk']; simp, by simpa using hx⟩
      · rintro (rfl | ⟨k, h1, h2⟩)
        · exact .inl hbF
        · rw [getElem?_set_some hk'] at h1
          by_cases e : k = k0
          · simp only [if_pos e] at h2; exact .inr h2
          · simp only [if_neg e] at h1 h2
            exact .inl ⟨(hF x).2 (.inr ⟨k, h1, h2⟩), fun hx0 => e (hdis k k0 x h1 hs0 h2 hx0)⟩
    · rw [getElem?_set_some hk'] at h1 h2
      by_cases e : k = k0 <;> by_cases e' : k' = k0
      · exact e.trans e'.symm
      · simp only [if_pos e, if_neg e'] at h1 h2 h3 h4
        exact absurd ⟨(hF x).2 (.inr ⟨k', h2, h4⟩), fun hx0 => e' (hdis k' k0 x h2 hs0 h4 hx0)⟩ (hd x h3)
      · simp only [if_neg e, if_pos e'] at h1 h2 h3 h4
        exact absurd ⟨(hF x).2 (.inr ⟨k, h1, h3⟩), fun hx0 => e (hdis k k0 x h1 hs0 h3 hx0)⟩ (hd x h4)
      · simp only [if_neg e, if_neg e'] at h1 h2 h3 h4
        exact hdis k k' x h1 h2 h3 h4
    · rw [getElem?_set_some hk'] at h1
      by_cases e : k = k0
      · simp only [if_pos e]; exact fun hx => hd b hx hbF
      · simp only [if_neg e] at h1 ⊢; exact hself k h1
  | agg vs cvs Fc F hn hv hF hdis => exact lens_list (mk := .agg) hn hv hF hdis hk (fun C' vs' Fc' F' a b c d => .agg vs' cvs Fc' F' a b c d)
  | tup vs cvs Fc F hn hv hF hdis => exact lens_list (mk := .tup) hn hv hF hdis hk (fun C' vs' Fc' F' a b c d => .tup vs' cvs Fc' F' a b c d)
  | clo f vs cvs Fc F hn hv hF hdis => exact lens_list (mk := .clo f) hn hv hF hdis hk (fun C' vs' Fc' F' a b c d => .clo f vs' cvs Fc' F' a b c d)
  | ownNil => simp [AV.kid, cell] at hk
  | lit v cv h =>
    cases h with
    | agg vs cvs hn hv => exact lens_list (mk := .agg) (Fc := fun _ _ => False) hn (fun k v cv h1 h2 => .lit v cv (hv k v cv h1 h2)) (fun x => ⟨fun h => h.elim, fun ⟨_, _, h⟩ => h⟩) (fun _ _ _ _ _ h => h.elim) hk (fun C' vs' Fc' F' a b c d => .agg vs' cvs Fc' F' a b c d)
    | tup vs cvs hn hv => exact lens_list (mk := .tup) (Fc := fun _ _ => False) hn (fun k v cv h1 h2 => .lit v cv (hv k v cv h1 h2)) (fun x => ⟨fun h => h.elim, fun ⟨_, _, h⟩ => h⟩) (fun _ _ _ _ _ h => h.elim) hk (fun C' vs' Fc' F' a b c d => .tup vs' cvs Fc' F' a b c d)
    | clo f vs cvs hn hv => exact lens_list (mk := .clo f) (Fc := fun _ _ => False) hn (fun k v cv h1 h2 => .lit v cv (hv k v cv h1 h2)) (fun x => ⟨fun h => h.elim, fun ⟨_, _, h⟩ => h⟩) (fun _ _ _ _ _ h => h.elim) hk (fun C' vs' Fc' F' a b c d => .clo f vs' cvs Fc' F' a b c d)
    | _ => simp [AV.kid] at hk
  | _ => simp [AV.kid] at hk
theorem lens : ∀ (p : List (Nat × Nat)) {v : AV} {cv : Value} {F : FP} (h : VR C v cv F) {c : AV} (hk : getP p v = some c), Lens C v cv F c (fun u => putP p u v)
  | [], v, cv, F, h, c, hk => by
    cases hk
    exact ⟨cv, F, h, fun x hx => hx, fun C' c' Fc' hr _ _ => hr.fp fun x => ⟨fun hx => hx.elim (fun hx => absurd hx.1 hx.2) id, .inr⟩⟩
  | s :: p, v, cv, F, h, c, hk => by
    simp only [getP] at hk
    cases hm : v.kid s with
    | none => simp [hm] at hk
    | some m =>
      simp only [hm, Option.bind_some] at hk
      obtain ⟨cm, Fm, hvm, hsub, hput⟩ := lens_kid h hm
      obtain ⟨cc, Fc, hvc, hsub', hput'⟩ := lens p hvm hk
      refine ⟨cc, Fc, hvc, fun x hx => hsub x (hsub' x hx), fun C' c' Fc' hr hc hd => ?_⟩
      have h1 := hput' C' c' Fc' hr (hc.mono fun x hx => ⟨hsub x hx.1, hx.2⟩) (fun x hx hb => hd x hx ⟨hsub x hb.1, hb.2⟩)
      have h2 := hput C' (putP p c' m) _ h1 (hc.mono fun x hx => ⟨hx.1, fun hb => hx.2 (hsub' x hb)⟩) (fun x hx hb => by
        rcases hx with hx | hx
        · exact hb.2 hx.1
        · exact hd x hx ⟨hb.1, fun hx0 => hb.2 (hsub' x hx0)⟩)
      simp only [putP, hm]
      refine h2.fp fun x => ?_
      constructor
      · rintro (⟨hx, hn⟩ | hx)
        · by_cases hm' : Fm x
          · exact .inr (.inl ⟨hm', hn⟩)
          · exact .inl ⟨hx, hm'⟩
        · exact .inr (.inr hx)
      · rintro (⟨hx, hn⟩ | ⟨hx, hn⟩ | hx)
        · exact .inl ⟨hx, fun h0 => hn (hsub' x h0)⟩
        · exact .inl ⟨hsub x hx, hn⟩
        · exact .inr hx
end
end Go.Proofs.Ytgoajlgkbcongaa.Vm
end
section
set_option linter.unusedVariables false
set_option linter.unusedSimpArgs false
namespace Go.Proofs.Ytgoajlgkbcongaa.Vm
open Go Go.RowKit
def AV.frz : AV → AV
  | .own _ _ rows => .fz (rows.map fun r => r.map fun v => v.frz)
  | .nil => .fz []
  | .box _ cells => .fad (cells.map fun v => v.frz) 0
  | .agg vs => .agg (vs.map fun v => v.frz)
  | .tup vs => .tup (vs.map fun v => v.frz)
  | .clo f vs => .clo f (vs.map fun v => v.frz)
  | .mp .. => .undef
  | .bor .. => .undef
  | .adr .. => .undef
  | .undef => .undef
  | .int k n => .int k n
  | .bool b => .bool b
  | .str t => .str t
  | .fn f => .fn f
  | .fz rows => .fz rows
  | .fad row k => .fad row k
  decreasing_by
  all_goals simp_wf
  all_goals first
    | (rename_i h1 h2; have a := List.sizeOf_lt_of_mem h1; have b := List.sizeOf_lt_of_mem h2; omega)
    | (rename_i h1; have a := List.sizeOf_lt_of_mem h1; omega)
theorem cell_map (f : AV → AV) (rows : List (List AV)) (j k : Nat) : cell (rows.map fun r => r.map f) j k = (cell rows j k).map f := by
  unfold cell
  rw [List.getElem?_map]
  cases rows[j]? with
  | none => rfl
  | some r => simp
theorem FZ.frz {w : World} {D D' : FP} {v : AV} {cv : Value} (h : FZ w D v cv) (hD : ∀ x, D' x → D x) : FZ w D' v.frz cv := by
  have hm : ∀ {v cv}, FZ w D v cv → FZ w D' v cv := fun h => h.mono fun x _ hx => ⟨rfl, fun h' => hx (hD x h')⟩
  induction h with
  | nil => rw [AV.frz]; exact .fz [] none 0 0 0 (fun _ _ => Go.undef) rfl (by simp) (Nat.le_refl _) (by omega) (fun h => absurd h (by omega)) (fun j k v h => by simp [cell] at h) (fun j k v h => by simp [cell] at h)
  | agg vs cvs hn hv ih =>
    rw [AV.frz]
    refine .agg _ cvs (by simp [hn]) (fun k v cv h1 h2 => ?_)
    rw [List.getElem?_map] at h1
    obtain ⟨u, hu, rfl⟩ := Option.map_eq_some_iff.1 h1
    exact ih k u cv hu h2
  | tup vs cvs hn hv ih =>
    rw [AV.frz]
    refine .tup _ cvs (by simp [hn]) (fun k v cv h1 h2 => ?_)
    rw [List.getElem?_map] at h1
    obtain ⟨u, hu, rfl⟩ := Option.map_eq_some_iff.1 h1
    exact ih k u cv hu h2
  | clo f vs cvs hn hv ih =>
    rw [AV.frz]
    refine .clo f _ cvs (by simp [hn]) (fun k v cv h1 h2 => ?_)
    rw [List.getElem?_map] at h1
    obtain ⟨u, hu, rfl⟩ := Option.map_eq_some_iff.1 h1
    exact ih k u cv hu h2
  | undef cv => rw [AV.frz]; exact .undef cv
  | int k n => rw [AV.frz]; exact .int k n
  | bool b => rw [AV.frz]; exact .bool b
  | str s => rw [AV.frz]; exact .str s
  | fn f => rw [AV.frz]; exact .fn f
  | fz rows A n cap sz cvs hn hsz hcap hmax hcell hv hone ih => rw [AV.frz]; exact hm (.fz rows A n cap sz cvs hn hsz hcap hmax hcell hv hone)
  | fad row k b o cvs hlt hD hcell hv hone ih => rw [AV.frz]; exact hm (.fad row k b o cvs hlt hD hcell hv hone)
theorem lt_of_some {w : World} {b : Nat} {o : Obj} (h : w.heap[b]? = some o) : b < w.heap.size := (Array.getElem?_eq_some_iff.1 h).1
theorem cell_of_cells {w : World} {b e : Nat} {cur : Array Value} {fr : Nat × Nat} (h : w.heap[b]? = some (.cells cur e fr)) (i : Nat) : w.cell? ⟨b, i, none⟩ = cur[i]? := by simp [World.cell?, h]
theorem VR.frz {C : Cx} {v : AV} {cv : Value} {F : FP} (h : VR C v cv F) {D' : FP} (hD : ∀ x, D' x → C.D x) : (∀ x, F x → ¬ D' x) → FZ C.w D' v.frz cv := by
  induction h with
  | lit v cv h => intro _; exact h.frz hD
  | ownNil id sz hid hη => intro _; rw [AV.frz]; exact .fz _ none 0 0 0 (fun _ _ => Go.undef) (by simp) (by simp) (Nat.le_refl _) (by omega) (fun h => absurd h (by omega)) (fun j k v h => by simp [cell] at h) (fun j k v h => by simp [cell] at h)
  | own id sz rows b n cap e cur cvs Fc F hid hη hn hsz hcap hmax hb hcur hone hcell hv hF hdis hself ih =>
    intro hF'
    rw [AV.frz]
    refine .fz _ _ n cap sz cvs (by simp [hn]) ?_ hcap (by omega) (fun _ => ⟨b, 0, rfl, lt_of_some hb, hF' b ((hF b).2 (.inl rfl)), fun j k v hj => ?_⟩) (fun j k v hj => ?_) (fun j k v hj => ?_)
    · intro row hr
      obtain ⟨r, hr', rfl⟩ := List.mem_map.1 hr
      rw [List.length_map]; exact hsz r hr'
    · rw [cell_map] at hj
      obtain ⟨u, hu, rfl⟩ := Option.map_eq_some_iff.1 hj
      rw [cell_of_cells hb, Nat.zero_add]; exact hcell j k u hu
    · rw [cell_map] at hj
      obtain ⟨u, hu, rfl⟩ := Option.map_eq_some_iff.1 hj
      exact ih j k u hu (fun x hx => hF' x ((hF x).2 (.inr ⟨j, k, by rw [hu]; rfl, hx⟩)))
    · rw [cell_map] at hj
      obtain ⟨u, hu, rfl⟩ := Option.map_eq_some_iff.1 hj
      exact hone _ _ (hcell j k u hu)
  | box id cells b e cur cvs Fc F hid hη hb hcur hone hcell hv hF hdis hself ih =>
    intro hF'
    rw [AV.frz]
    refine .fad _ 0 b 0 cvs (lt_of_some hb) (hF' b ((hF b).2 (.inl rfl))) (fun i v hi => ?_) (fun i v hi => ?_) (fun i v hi => ?_)
    · rw [List.getElem?_map] at hi
      obtain ⟨u, hu, rfl⟩ := Option.map_eq_some_iff.1 hi
      rw [cell_of_cells hb, Nat.zero_add]; exact hcell i u hu
    · rw [List.getElem?_map] at hi
      obtain ⟨u, hu, rfl⟩ := Option.map_eq_some_iff.1 hi
      exact ih i u hu (fun x hx => hF' x ((hF x).2 (.inr ⟨i, by rw [hu]; rfl, hx⟩)))
    · rw [List.getElem?_map] at hi
      obtain ⟨u, hu, rfl⟩ := Option.map_eq_some_iff.1 hi
      exact hone _ _ (hcell i u hu)
  | mp id ks vs b clock es hid hη hb hks hvs hk hv => intro _; rw [AV.frz]; exact .undef _
  | agg vs cvs Fc F hn hv hF hdis ih =>
    intro hF'
    rw [AV.frz]
    refine .agg _ cvs (by simp [hn]) (fun k v cv h1 h2 => ?_)
    rw [List.getElem?_map] at h1
    obtain ⟨u, hu, rfl⟩ := Option.map_eq_some_iff.1 h1
    exact ih k u cv hu h2 (fun x hx => hF' x ((hF x).2 ⟨k, by rw [hu]; rfl, hx⟩))
  | tup vs cvs Fc F hn hv hF hdis ih =>
    intro hF'
    rw [AV.frz]
    refine .tup _ cvs (by simp [hn]) (fun k v cv h1 h2 => ?_)
    rw [List.getElem?_map] at h1
    obtain ⟨u, hu, rfl⟩ := Option.map_eq_some_iff.1 h1
    exact ih k u cv hu h2 (fun x hx => hF' x ((hF x).2 ⟨k, by rw [hu]; rfl, hx⟩))
  | clo f vs cvs Fc F hn hv hF hdis ih =>
    intro hF'
    rw [AV.frz]
    refine .clo f _ cvs (by simp [hn]) (fun k v cv h1 h2 => ?_)
    rw [List.getElem?_map] at h1
    obtain ⟨u, hu, rfl⟩ := Option.map_eq_some_iff.1 h1
    exact ih k u cv hu h2 (fun x hx => hF' x ((hF x).2 ⟨k, by rw [hu]; rfl, hx⟩))
  | bor p id hid => intro _; rw [AV.frz]; exact .undef _
  | adr p id sz j k b hid hb => intro _; rw [AV.frz]; exact .undef _
/-! ### Frames -/
structure Fr where
  s : Nat → AV
  g : Nat
  n : Nat
def Fr.upd (fr : Fr) (t : Nat) (v : AV) : Fr := { fr with s := fun u => if u = t then v else fr.s u }
def Fr.get (fr : Fr) (p : Pl) : Option AV := getP p.2 (fr.s p.1)
def Fr.put (fr : Fr) (p : Pl) (u : AV) : Fr := fr.upd p.1 (putP p.2 u (fr.s p.1))
def Fr.fresh (fr : Fr) (k : Nat) : Fr := { fr with g := fr.g + k }
def lend0 (p : Pl) : AV → AV
  | .own id _ _ => .bor p id
  | .mp id _ _ => .bor p id
  | .box id _ => .adr p id 0 0 0
  | .agg _ => .undef
  | .tup _ => .undef
  | .clo _ _ => .undef
  | v => v
def lendL (t : Nat) (q : List (Nat × Nat)) (j : Nat) : Nat → List AV → List AV
  | _, [] => []
  | i, v :: vs => lend0 (t, q ++ [(j, i)]) v :: lendL t q j (i + 1) vs
def lend1 (t : Nat) (q : List (Nat × Nat)) : AV → AV
  | .agg vs => .agg (lendL t q 0 0 vs)
  | .clo f vs => .clo f (lendL t q 0 0 vs)
  | v => lend0 (t, q) v
def lendM (t : Nat) : Nat → List AV → List AV
  | _, [] => []
  | i, v :: vs => lend1 t [(0, i)] v :: lendM t (i + 1) vs
def lend2 (t : Nat) : AV → AV
  | .tup vs => .tup (lendM t 0 vs)
  | v => lend1 t [] v
section
variable {C : Cx}
theorem VR.lend0 {v : AV} {cv : Value} {F : FP} (h : VR C v cv F) (p : Pl) : VR C (Vm.lend0 p v) cv (fun _ => False) := by
  cases h with
  | lit v cv h => cases h <;> first | exact .lit _ _ (.undef _) | (refine .lit _ _ ?_; constructor <;> assumption)
  | ownNil id sz hid hη => rw [← hη]; exact .bor p id hid
  | own id sz rows b n cap e cur cvs Fc F hid hη => rw [← hη]; exact .bor p id hid
  | box id cells b e cur cvs Fc F hid hη => exact .adr p id 0 0 0 b hid (by rw [hη]; rfl)
  | mp id ks vs b clock es hid hη => rw [← hη]; exact .bor p id hid
  | agg => exact .lit _ _ (.undef _)
  | tup => exact .lit _ _ (.undef _)
  | clo => exact .lit _ _ (.undef _)
  | bor p' id hid => exact .bor p' id hid
  | adr p' id sz j k b hid hb => exact .adr p' id sz j k b hid hb
theorem lendL_at (t : Nat) (q : List (Nat × Nat)) (j : Nat) : ∀ (vs : List AV) (i k : Nat), (lendL t q j i vs)[k]? = (vs[k]?).map (lend0 (t, q ++ [(j, i + k)]))
  | [], i, k => by simp [lendL]
  | v :: vs, i, 0 => by simp [lendL]
  | v :: vs, i, k + 1 => by simp only [lendL, List.getElem?_cons_succ, lendL_at t q j vs (i + 1) k, show i + 1 + k = i + (k + 1) by omega]
theorem lendL_length (t : Nat) (q : List (Nat × Nat)) (j : Nat) : ∀ (vs : List AV) (i : Nat), (lendL t q j i vs).length = vs.length
  | [], i => rfl
  | v :: vs, i => by simp [lendL, lendL_length t q j vs]
theorem lendM_at (t : Nat) : ∀ (vs : List AV) (i k : Nat), (lendM t i vs)[k]? = (vs[k]?).map (lend1 t [(0, i + k)])
  | [], i, k => by simp [lendM]
  | v :: vs, i, 0 => by simp [lendM]
  | v :: vs, i, k + 1 => by simp only [lendM, List.getElem?_cons_succ, lendM_at t vs (i + 1) k, show i + 1 + k = i + (k + 1) by omega]
theorem lendM_length (t : Nat) : ∀ (vs : List AV) (i : Nat), (lendM t i vs).length = vs.length
  | [], i => rfl
  | v :: vs, i => by simp [lendM, lendM_length t vs]
/-- A list each of whose values owns nothing. -/
theorem VR.plainList {vs : List AV} {cvs : Array Value} (hn : cvs.size = vs.length) (hv : ∀ (k : Nat) (v : AV) (cv : Value), vs[k]? = some v → cvs[k]? = some cv → VR C v cv (fun _ => False))
    {mk : List AV → AV} {cv : Value} (hmk : ∀ (Fc : Nat → FP) (F : FP), cvs.size = vs.length → (∀ (k : Nat) (v : AV) (cv : Value), vs[k]? = some v → cvs[k]? = some cv → VR C v cv (Fc k)) → (∀ x, F x ↔ ∃ k, (vs[k]?).isSome ∧ Fc k x) →
      (∀ k k' x, (vs[k]?).isSome → (vs[k']?).isSome → Fc k x → Fc k' x → k = k') → VR C (mk vs) cv F) : VR C (mk vs) cv (fun _ => False) :=
  hmk (fun _ _ => False) _ hn hv (fun x => ⟨fun h => h.elim, fun ⟨_, _, h⟩ => h⟩) (fun _ _ _ _ _ h => h.elim)
theorem VR.parts {v : AV} {cv : Value} {F : FP} (h : VR C v cv F) : (∀ vs, v = .agg vs → ∃ (cvs : Array Value) (Fc : Nat → FP), cv = .agg cvs ∧ cvs.size = vs.length ∧ ∀ (k : Nat) (v : AV) (cv : Value), vs[k]? = some v → cvs[k]? = some cv → VR C v cv (Fc k)) ∧
    (∀ vs, v = .tup vs → ∃ (cvs : Array Value) (Fc : Nat → FP), cv = .tuple cvs ∧ cvs.size = vs.length ∧ ∀ (k : Nat) (v : AV) (cv : Value), vs[k]? = some v → cvs[k]? = some cv → VR C v cv (Fc k)) ∧
    (∀ f vs, v = .clo f vs → ∃ (cvs : Array Value) (Fc : Nat → FP), cv = .func (.func f) #[] cvs ∧ cvs.size = vs.length ∧ ∀ (k : Nat) (v : AV) (cv : Value), vs[k]? = some v → cvs[k]? = some cv → VR C v cv (Fc k)) := by
  refine ⟨fun vs e => ?_, fun vs e => ?_, fun f vs e => ?_⟩ <;> subst e
  · cases h with
    | lit v cv h => cases h with
      | agg vs cvs hn hv => exact ⟨cvs, fun _ _ => False, rfl, hn, fun k v cv h1 h2 => .lit _ _ (hv k v cv h1 h2)⟩
    | agg vs cvs Fc F hn hv => exact ⟨cvs, Fc, rfl, hn, hv⟩
  · cases h with
    | lit v cv h => cases h with
      | tup vs cvs hn hv => exact ⟨cvs, fun _ _ => False, rfl, hn, fun k v cv h1 h2 => .lit _ _ (hv k v cv h1 h2)⟩
    | tup vs cvs Fc F hn hv => exact ⟨cvs, Fc, rfl, hn, hv⟩
  · cases h with
    | lit v cv h => cases h with
      | clo f vs cvs hn hv => exact ⟨cvs, fun _ _ => False, rfl, hn, fun k v cv h1 h2 => .lit _ _ (hv k v cv h1 h2)⟩
    | clo f vs cvs Fc F hn hv => exact ⟨cvs, Fc, rfl, hn, hv⟩
theorem VR.lend1 {v : AV} {cv : Value} {F : FP} (h : VR C v cv F) (t : Nat) (q : List (Nat × Nat)) : VR C (Vm.lend1 t q v) cv (fun _ => False) := by
  by_cases h1 : ∃ vs, v = .agg vs
  · obtain ⟨vs, rfl⟩ := h1
    obtain ⟨cvs, Fc, rfl, hn, hv⟩ := h.parts.1 vs rfl
    refine VR.plainList (mk := .agg) (cvs := cvs) (by rw [lendL_length]; exact hn) (fun k v cv h1 h2 => ?_) (fun Fc F a b c d => .agg _ _ Fc F a b c d)
    rw [lendL_at] at h1
    obtain ⟨u, hu, rfl⟩ := Option.map_eq_some_iff.1 h1
    exact (hv k u cv hu h2).lend0 _
  by_cases h2 : ∃ f vs, v = .clo f vs
  · obtain ⟨f, vs, rfl⟩ := h2
    obtain ⟨cvs, Fc, rfl, hn, hv⟩ := h.parts.2.2 f vs rfl
    refine VR.plainList (mk := .clo f) (cvs := cvs) (by rw [lendL_length]; exact hn) (fun k v cv h1 h2 => ?_) (fun Fc F a b c d => .clo f _ _ Fc F a b c d)
    rw [lendL_at] at h1
    obtain ⟨u, hu, rfl⟩ := Option.map_eq_some_iff.1 h1
    exact (hv k u cv hu h2).lend0 _
  have h0 := h.lend0 (t, q)
  cases v <;> first | exact h0 | exact absurd ⟨_, rfl⟩ h1 | exact absurd ⟨_, _, rfl⟩ h2
theorem VR.lend2 {v : AV} {cv : Value} {F : FP} (h : VR C v cv F) (t : Nat) : VR C (Vm.lend2 t v) cv (fun _ => False) := by
  by_cases h1 : ∃ vs, v = .tup vs
  · obtain ⟨vs, rfl⟩ := h1
    obtain ⟨cvs, Fc, rfl, hn, hv⟩ := h.parts.2.1 vs rfl
    refine VR.plainList (mk := .tup) (cvs := cvs) (by rw [lendM_length]; exact hn) (fun k v cv h1 h2 => ?_) (fun Fc F a b c d => .tup _ _ Fc F a b c d)
    rw [lendM_at] at h1
    obtain ⟨u, hu, rfl⟩ := Option.map_eq_some_iff.1 h1
    exact (hv k u cv hu h2).lend1 _ _
  have h0 := h.lend1 t []
  cases v <;> first | exact h0 | exact absurd ⟨_, rfl⟩ h1
end
/-- Slots and what they say: disjoint, all inside D. -/
structure Rel (C : Cx) (fr : Fr) (tm : Nat → Value) (F : Nat → FP) : Prop where
  vr : ∀ t, VR C (fr.s t) (tm t) (F t)
  dis : ∀ t t' x, F t x → F t' x → t = t'
  sub : ∀ t x, F t x → C.D x
theorem Fr.s_upd (fr : Fr) (t u : Nat) (v : AV) : (fr.upd t v).s u = if u = t then v else fr.s u := rfl
/-- A part of a slot told otherwise, in the world as it stands or in another. -/
theorem Rel.lens {C : Cx} {fr : Fr} {tm : Nat → Value} {F : Nat → FP} (h : Rel C fr tm F) {p : Pl} {c : AV} (hg : fr.get p = some c) :
    ∃ cc Fc, VR C c cc Fc ∧ (∀ x, Fc x → F p.1 x) ∧ ∀ C' c' Fc', VR C' c' cc Fc' → Compat C C' (fun x => C.D x ∧ ¬ Fc x) → (∀ x, Fc' x → ∀ t, ¬ (F t x ∧ ¬ Fc x)) → (∀ x, Fc' x → C'.D x) → (∀ x, C.D x → ¬ Fc x → C'.D x) →
      Rel C' (fr.put p c') tm (fun t x => if t = p.1 then (F t x ∧ ¬ Fc x) ∨ Fc' x else F t x) := by
  obtain ⟨cc, Fc, hv, hs, hput⟩ := Vm.lens p.2 (h.vr p.1) hg
  refine ⟨cc, Fc, hv, hs, fun C' c' Fc' hr hc hd hD1 hD2 => ⟨fun t => ?_, fun t t' x h1 h2 => ?_, fun t x hx => ?_⟩⟩
  · by_cases e : t = p.1
    · subst e
      simp only [Fr.put, Fr.s_upd, if_true]
      exact hput C' c' Fc' hr (hc.mono fun x hx => ⟨h.sub _ x hx.1, hx.2⟩) (fun x hx => hd x hx p.1)
    · simp only [Fr.put, Fr.s_upd, if_neg e]
      exact (h.vr t).mono (hc.mono fun x hx => ⟨h.sub _ x hx, fun hx0 => e (h.dis t p.1 x hx (hs x hx0))⟩)
  · by_cases e : t = p.1 <;> by_cases e' : t' = p.1
    · rw [e, e']
    · simp only [if_pos e, if_neg e'] at h1 h2
      rcases h1 with h1 | h1
      · rw [e] at h1; exact absurd (h.dis _ _ x h1.1 h2).symm (by rwa [e] at *)
      · exact absurd ⟨h2, fun hx0 => e' (h.dis t' p.1 x h2 (hs x hx0))⟩ (hd x h1 t')
    · simp only [if_neg e, if_pos e'] at h1 h2
      rcases h2 with h2 | h2
      · rw [e'] at h2; exact absurd (h.dis _ _ x h1 h2.1) e
      · exact absurd ⟨h1, fun hx0 => e (h.dis t p.1 x h1 (hs x hx0))⟩ (hd x h2 t)
    · simp only [if_neg e, if_neg e'] at h1 h2; exact h.dis t t' x h1 h2
  · by_cases e : t = p.1
    · simp only [if_pos e] at hx
      rcases hx with hx | hx
      · exact hD2 x (h.sub t x hx.1) hx.2
      · exact hD1 x hx
    · simp only [if_neg e] at hx
      exact hD2 x (h.sub t x hx) (fun hx0 => e (h.dis t p.1 x hx (hs x hx0)))
end Go.Proofs.Ytgoajlgkbcongaa.Vm
end
section
set_option linter.unusedVariables false
set_option linter.unusedSimpArgs false
namespace Go.Proofs.Ytgoajlgkbcongaa.Vm
open Go Go.RowKit
def Fr.mat0 (fr : Fr) : AV → Option (AV × Fr)
  | .bor p id => match fr.get p with
    | some (.own id' sz rows) => if id' = id then some (.own id' sz rows, fr.put p .undef) else none
    | some (.mp id' ks vs) => if id' = id then some (.mp id' ks vs, fr.put p .undef) else none
    | _ => none
  | .adr p id sz j k => match fr.get p with
    | some (.box id' cells) => if id' = id ∧ j = 0 ∧ k = 0 then some (.box id' cells, fr.put p .undef) else some (.adr p id sz j k, fr)
    | _ => some (.adr p id sz j k, fr)
  | .agg _ => none
  | .tup _ => none
  | v => some (v, fr)
def Fr.matL : Fr → List AV → Option (List AV × Fr)
  | fr, [] => some ([], fr)
  | fr, x :: xs => (fr.mat0 x).bind fun r => (r.2.matL xs).bind fun q => some (r.1 :: q.1, q.2)
def Fr.mat1 (fr : Fr) : AV → Option (AV × Fr)
  | .agg vs => (fr.matL vs).bind fun q => some (.agg q.1, q.2)
  | v => fr.mat0 v
def Fr.view0 (fr : Fr) : AV → Option AV
  | .bor p id => match fr.get p with
    | some (.own id' sz rows) => if id' = id then some (AV.own id' sz rows).frz else none
    | _ => none
  | .adr p id sz j k => match fr.get p with
    | some (.box id' cells) => if id' = id ∧ j = 0 ∧ k = 0 then some (AV.box id' cells).frz else none
    | _ => none
  | .agg _ => none
  | .tup _ => none
  | .clo _ _ => none
  | v => some v.frz
def Fr.viewL : Fr → List AV → Option (List AV)
  | fr, [] => some []
  | fr, x :: xs => (fr.view0 x).bind fun v => (fr.viewL xs).bind fun vs => some (v :: vs)
def Fr.view1 (fr : Fr) : AV → Option AV
  | .agg vs => (fr.viewL vs).bind fun q => some (.agg q)
  | .clo f vs => (fr.viewL vs).bind fun q => some (.clo f q)
  | v => fr.view0 v
def Fr.viewA : Fr → List AV → Option (List AV)
  | fr, [] => some []
  | fr, x :: xs => (fr.view1 x).bind fun v => (fr.viewA xs).bind fun vs => some (v :: vs)
/-- What is frozen for good: whatever the value looks at. -/
def Fr.ice0 (fr : Fr) : AV → Option Fr
  | .bor p id => match fr.get p with
    | some (.own id' sz rows) => some (fr.put p (AV.own id' sz rows).frz)
    | _ => none
  | .adr p id sz j k => match fr.get p with
    | some (.box id' cells) => some (fr.put p (AV.box id' cells).frz)
    | _ => none
  | _ => some fr
def Fr.iceL : Fr → List AV → Option Fr
  | fr, [] => some fr
  | fr, x :: xs => (fr.ice0 x).bind fun q => q.iceL xs
def Fr.ice1 (fr : Fr) : AV → Option Fr
  | .agg vs => fr.iceL vs
  | .clo _ vs => fr.iceL vs
  | v => fr.ice0 v
def Fr.iceA : Fr → List AV → Option Fr
  | fr, [] => some fr
  | fr, x :: xs => (fr.ice1 x).bind fun q => q.iceA xs
theorem Compat.refl (C : Cx) (F : FP) : Compat C C F := ⟨Nat.le_refl _, fun _ _ => rfl, fun _ _ => rfl, fun _ _ h => ⟨rfl, h⟩⟩
section
variable {C : Cx}
theorem VR.hdr {id sz : Nat} {rows : List (List AV)} {cv : Value} {F : FP} (h : VR C (.own id sz rows) cv F) : cv = C.η id := by
  cases h with
  | lit v cv h => cases h
  | ownNil id sz hid hη => exact hη.symm
  | own id sz rows b n cap e cur cvs Fc F hid hη => exact hη.symm
theorem VR.hdrMp {id : Nat} {ks vs : List AV} {cv : Value} {F : FP} (h : VR C (.mp id ks vs) cv F) : cv = C.η id := by
  cases h with
  | lit v cv h => cases h
  | mp id ks vs b clock es hid hη => exact hη.symm
theorem VR.hdrBox {id : Nat} {cells : List AV} {cv : Value} {F : FP} (h : VR C (.box id cells) cv F) : ∃ b, cv = .pointer (some ⟨b, 0, none⟩) ∧ C.η id = .pointer (some ⟨b, 0, none⟩) := by
  cases h with
  | lit v cv h => cases h
  | box id cells b e cur cvs Fc F hid hη => exact ⟨b, rfl, hη⟩
theorem VR.borHdr {p : Pl} {id : Nat} {cv : Value} {F : FP} (h : VR C (.bor p id) cv F) : cv = C.η id ∧ id < C.g := by
  cases h with
  | lit v cv h => cases h
  | bor p id hid => exact ⟨rfl, hid⟩
theorem VR.adrHdr {p : Pl} {id sz j k : Nat} {cv : Value} {F : FP} (h : VR C (.adr p id sz j k) cv F) : ∃ b, cv = .pointer (some ⟨b, j * sz + k, none⟩) ∧ blockOf (C.η id) = some b ∧ id < C.g := by
  cases h with
  | lit v cv h => cases h
  | adr p id sz j k b hid hb => exact ⟨b, rfl, hb, hid⟩
theorem VR.noFP {v : AV} {cv : Value} {F : FP} (h : VR C v cv F) (hv : ∀ x, ¬ F x) : VR C v cv (fun _ => False) := h.fp fun x => ⟨fun h => h.elim, fun h => hv x h⟩
/-- What a move leaves. -/
structure Moved (C : Cx) (fr fr' : Fr) (tm : Nat → Value) (F F' : Nat → FP) (Fv : FP) : Prop where
  rel : Rel C fr' tm F'
  dis : ∀ t x, F' t x → ¬ Fv x
  sub : ∀ t x, F' t x → F t x
  own : ∀ x, Fv x → ∃ t, F t x
  g : fr'.g = fr.g
  n : fr'.n = fr.n
theorem Rel.take {fr : Fr} {tm : Nat → Value} {F : Nat → FP} (h : Rel C fr tm F) {p : Pl} {c : AV} (hg : fr.get p = some c) :
    ∃ cc Fc F', VR C c cc Fc ∧ Moved C fr (fr.put p .undef) tm F F' Fc := by
  obtain ⟨cc, Fc, hv, hs, hput⟩ := h.lens hg
  refine ⟨cc, Fc, _, hv, hput C .undef (fun _ => False) (.lit _ _ (.undef _)) (Compat.refl _ _) (fun _ h => h.elim) (fun _ h => h.elim) (fun x h _ => h), fun t x h1 h2 => ?_, fun t x h1 => ?_, fun x hx => ⟨p.1, hs x hx⟩, rfl, rfl⟩
  · by_cases e : t = p.1
    · simp only [if_pos e] at h1
      exact h1.elim (fun h => h.2 h2) id
    · simp only [if_neg e] at h1
      exact e (h.dis t p.1 x h1 (hs x h2))
  · by_cases e : t = p.1
    · simp only [if_pos e] at h1
      subst e
      exact h1.elim (fun h => h.1) (fun h => h.elim)
    · simpa only [if_neg e] using h1
theorem Moved.same {fr : Fr} {tm : Nat → Value} {F : Nat → FP} (h : Rel C fr tm F) : Moved C fr fr tm F F (fun _ => False) := ⟨h, fun _ _ _ h => h, fun _ _ h => h, fun _ h => h.elim, rfl, rfl⟩
theorem Rel.mat0 {fr fr' : Fr} {tm : Nat → Value} {F : Nat → FP} (h : Rel C fr tm F) {x v : AV} {cx : Value} (hx : VR C x cx (fun _ => False)) (hm : fr.mat0 x = some (v, fr')) :
    ∃ F' Fv, VR C v cx Fv ∧ Moved C fr fr' tm F F' Fv := by
  unfold Fr.mat0 at hm
  split at hm
  · rename_i p id
    cases hg : fr.get p with
    | none => simp [hg] at hm
    | some c =>
      obtain ⟨cc, Fc, F', hv, hmv⟩ := h.take hg
      cases c with
      | own id' sz rows =>
        simp only [hg] at hm
        split at hm
        · rename_i e
          subst e
          cases hm
          rw [hx.borHdr.1, ← hv.hdr]
          exact ⟨F', Fc, hv, hmv⟩
        · cases hm
      | mp id' ks vs =>
        simp only [hg] at hm
        split at hm
        · rename_i e
          subst e
          cases hm
          rw [hx.borHdr.1, ← hv.hdrMp]
          exact ⟨F', Fc, hv, hmv⟩
        · cases hm
      | _ => simp [hg] at hm
  · rename_i p id sz j k
    cases hg : fr.get p with
    | none => simp only [hg] at hm; cases hm; exact ⟨F, _, hx, .same h⟩
    | some c =>
      cases c with
      | box id' cells =>
        simp only [hg] at hm
        split at hm
        · rename_i e
          obtain ⟨rfl, rfl, rfl⟩ := e
          cases hm
          obtain ⟨cc, Fc, F', hv, hmv⟩ := h.take hg
          obtain ⟨b, rfl, hb, _⟩ := hx.adrHdr
          obtain ⟨b', rfl, hb'⟩ := hv.hdrBox
          rw [hb'] at hb
          simp only [blockOf, Option.some.injEq] at hb
          subst hb
          simp only [Nat.zero_mul, Nat.add_zero]
          exact ⟨F', Fc, hv, hmv⟩
        · cases hm; exact ⟨F, _, hx, .same h⟩
      | _ => simp only [hg] at hm; cases hm; exact ⟨F, _, hx, .same h⟩
  · cases hm
  · cases hm
  · cases hm; exact ⟨F, _, hx, .same h⟩
theorem Moved.trans {fr fr1 fr2 : Fr} {tm : Nat → Value} {F F1 F2 : Nat → FP} {Fa Fb : FP} (h : Moved C fr fr1 tm F F1 Fa) (k : Moved C fr1 fr2 tm F1 F2 Fb) : Moved C fr fr2 tm F F2 (fun x => Fa x ∨ Fb x) :=
  ⟨k.rel, fun t x h1 h2 => h2.elim (h.dis t x (k.sub t x h1)) (k.dis t x h1), fun t x hx => h.sub t x (k.sub t x hx),
    fun x hx => hx.elim (h.own x) (fun hb => let ⟨t, ht⟩ := k.own x hb; ⟨t, h.sub t x ht⟩), k.g.trans h.g, k.n.trans h.n⟩
theorem Rel.matL : ∀ (xs : List AV) {fr fr' : Fr} {tm : Nat → Value} {F : Nat → FP} {vs : List AV} {cx : Nat → Value} (h : Rel C fr tm F) (hx : ∀ k x, xs[k]? = some x → VR C x (cx k) (fun _ => False)) (hm : fr.matL xs = some (vs, fr')),
    ∃ (F' : Nat → FP) (Fc : Nat → FP) (Fv : FP), vs.length = xs.length ∧ (∀ k v, vs[k]? = some v → VR C v (cx k) (Fc k)) ∧ (∀ x, Fv x ↔ ∃ k, (vs[k]?).isSome ∧ Fc k x) ∧ (∀ k k' x, (vs[k]?).isSome → (vs[k']?).isSome → Fc k x → Fc k' x → k = k') ∧ Moved C fr fr' tm F F' Fv
  | [], fr, fr', tm, F, vs, cx, h, hx, hm => by
    simp only [Fr.matL, Option.some.injEq, Prod.mk.injEq] at hm
    obtain ⟨rfl, rfl⟩ := hm
    exact ⟨F, fun _ _ => False, _, rfl, fun k v h => by simp at h, fun x => ⟨fun h => h.elim, fun ⟨_, _, h⟩ => h⟩, fun _ _ _ _ _ h => h.elim, .same h⟩
  | x :: xs, fr, fr', tm, F, vs, cx, h, hx, hm => by
    simp only [Fr.matL, Option.bind_eq_some_iff] at hm
    obtain ⟨⟨v, fr1⟩, h1, ⟨ws, fr2⟩, h2, h3⟩ := hm
    simp only [Option.some.injEq, Prod.mk.injEq] at h3
    obtain ⟨rfl, rfl⟩ := h3
    obtain ⟨F1, Fa, hv, hmv⟩ := h.mat0 (hx 0 x rfl) h1
    obtain ⟨F2, Fc, Fb, hl, hvs, hF, hd, hmv2⟩ := Rel.matL xs (cx := fun k => cx (k + 1)) hmv.rel (fun k x hk => hx (k + 1) x (by simpa using hk)) h2
    have hab : ∀ x, Fa x → ¬ Fb x := fun x ha hb => let ⟨t, ht⟩ := hmv2.own x hb; hmv.dis t x ht ha
    refine ⟨F2, fun k => match k with | 0 => Fa | k + 1 => Fc k, _, by simp [hl], fun k v hk => ?_, fun x => ?_, fun k k' x h1 h2 h3 h4 => ?_, hmv.trans hmv2⟩
    · cases k with
      | zero => simp only [List.getElem?_cons_zero, Option.some.injEq] at hk; subst hk; exact hv
      | succ k => simp only [List.getElem?_cons_succ] at hk; exact hvs k v hk
    · constructor
      · rintro (hx | hx)
        · exact ⟨0, rfl, hx⟩
        · obtain ⟨k, h1, h2⟩ := (hF x).1 hx
          exact ⟨k + 1, by simpa using h1, h2⟩
      · rintro ⟨k, h1, h2⟩
        cases k with
        | zero => exact .inl h2
        | succ k => exact .inr ((hF x).2 ⟨k, by simpa using h1, h2⟩)
    · cases k with
      | zero => cases k' with
        | zero => rfl
        | succ k' => exact absurd ((hF x).2 ⟨k', by simpa using h2, h4⟩) (hab x h3)
      | succ k => cases k' with
        | zero => exact absurd ((hF x).2 ⟨k, by simpa using h1, h3⟩) (hab x h4)
        | succ k' => rw [hd k k' x (by simpa using h1) (by simpa using h2) h3 h4]
theorem Rel.mat1 {fr fr' : Fr} {tm : Nat → Value} {F : Nat → FP} (h : Rel C fr tm F) {x v : AV} {cx : Value} (hx : VR C x cx (fun _ => False)) (hm : fr.mat1 x = some (v, fr')) :
    ∃ F' Fv, VR C v cx Fv ∧ Moved C fr fr' tm F F' Fv := by
  by_cases hag : ∃ xs, x = .agg xs
  · obtain ⟨xs, rfl⟩ := hag
    simp only [Fr.mat1, Option.bind_eq_some_iff] at hm
    obtain ⟨⟨vs, fr1⟩, h1, h3⟩ := hm
    simp only [Option.some.injEq, Prod.mk.injEq] at h3
    obtain ⟨rfl, rfl⟩ := h3
    have hxs : ∃ cvs : Array Value, cx = .agg cvs ∧ cvs.size = xs.length ∧ ∀ (k : Nat) (x : AV) (cv : Value), xs[k]? = some x → cvs[k]? = some cv → VR C x cv (fun _ => False) := by
      cases hx with
      | lit v cv h => cases h with
        | agg vs cvs hn hv => exact ⟨cvs, rfl, hn, fun k v cv h1 h2 => .lit _ _ (hv k v cv h1 h2)⟩
      | agg vs cvs Fc F hn hv hF hdis =>
        exact ⟨cvs, rfl, hn, fun k v cv h1 h2 => (hv k v cv h1 h2).noFP fun x hx => ((hF x).2 ⟨k, by rw [h1]; rfl, hx⟩)⟩
    obtain ⟨cvs, rfl, hn, hvs⟩ := hxs
    obtain ⟨F', Fc, Fv, hl, hv, hF, hd, hmv⟩ := Rel.matL xs (cx := fun k => cvs.getD k Go.undef) h (fun k x hk => by
      have hlt : k < cvs.size := by rw [hn]; exact (List.getElem?_eq_some_iff.1 hk).1
      exact hvs k x _ hk (by simp [Array.getD, hlt])) h1
    exact ⟨F', Fv, .agg vs cvs Fc Fv (by rw [hn, hl]) (fun k v cv h1 h2 => by
      have := hv k v h1
      have hlt : k < cvs.size := (Array.getElem?_eq_some_iff.1 h2).1
      have e : cvs.getD k Go.undef = cv := by simp [Array.getD, hlt, (Array.getElem?_eq_some_iff.1 h2).2]
      rwa [e] at this) hF hd, hmv⟩
  · have hm' : fr.mat0 x = some (v, fr') := by
      cases x <;> first | exact hm | exact absurd ⟨_, rfl⟩ hag
    exact h.mat0 hx hm'
theorem Rel.view0 {fr : Fr} {tm : Nat → Value} {F : Nat → FP} (h : Rel C fr tm F) {x v : AV} {cx : Value} (hx : VR C x cx (fun _ => False)) (hm : fr.view0 x = some v) : FZ C.w (fun _ => False) v cx := by
  unfold Fr.view0 at hm
  split at hm
  · rename_i p id
    cases hg : fr.get p with
    | none => simp [hg] at hm
    | some c =>
      obtain ⟨cc, Fc, F', hv, hmv⟩ := h.take hg
      cases c with
      | own id' sz rows =>
        simp only [hg] at hm
        split at hm
        · rename_i e
          subst e
          cases hm
          rw [hx.borHdr.1, ← hv.hdr]
          exact hv.frz (fun _ h => h.elim) (fun _ _ h => h)
        · cases hm
      | _ => simp [hg] at hm
  · rename_i p id sz j k
    cases hg : fr.get p with
    | none => simp [hg] at hm
    | some c =>
      cases c with
      | box id' cells =>
        simp only [hg] at hm
        split at hm
        · rename_i e
          obtain ⟨rfl, rfl, rfl⟩ := e
          cases hm
          obtain ⟨cc, Fc, F', hv, hmv⟩ := h.take hg
          obtain ⟨b, rfl, hb, _⟩ := hx.adrHdr
          obtain ⟨b', rfl, hb'⟩ := hv.hdrBox
          rw [hb'] at hb
          simp only [blockOf, Option.some.injEq] at hb
          subst hb
          simp only [Nat.zero_mul, Nat.add_zero]
          exact hv.frz (fun _ h => h.elim) (fun _ _ h => h)
        · cases hm
      | _ => simp [hg] at hm
  · cases hm
  · cases hm
  · cases hm
  · cases hm; exact hx.frz (fun _ h => h.elim) (fun _ h => h.elim)
theorem Rel.viewL : ∀ (xs : List AV) {fr : Fr} {tm : Nat → Value} {F : Nat → FP} {vs : List AV} {cx : Nat → Value} (h : Rel C fr tm F) (hx : ∀ k x, xs[k]? = some x → VR C x (cx k) (fun _ => False)) (hm : fr.viewL xs = some vs),
    vs.length = xs.length ∧ (∀ k v, vs[k]? = some v → FZ C.w (fun _ => False) v (cx k))
  | [], fr, tm, F, vs, cx, h, hx, hm => by
    simp only [Fr.viewL, Option.some.injEq] at hm
    subst hm
    exact ⟨rfl, fun k v h => by simp at h⟩
  | x :: xs, fr, tm, F, vs, cx, h, hx, hm => by
    simp only [Fr.viewL, Option.bind_eq_some_iff, Option.some.injEq] at hm
    obtain ⟨v, h1, ws, h2, rfl⟩ := hm
    have ha := h.view0 (hx 0 x rfl) h1
    have hb := Rel.viewL xs (cx := fun k => cx (k + 1)) h (fun k x hk => hx (k + 1) x (by simpa using hk)) h2
    refine ⟨by simp [hb.1], fun k v hk => ?_⟩
    cases k with
    | zero => simp only [List.getElem?_cons_zero, Option.some.injEq] at hk; subst hk; exact ha
    | succ k => simp only [List.getElem?_cons_succ] at hk; exact hb.2 k v hk
theorem VR.plainParts {v : AV} {cv : Value} (h : VR C v cv (fun _ => False)) : (∀ vs, v = .agg vs → ∃ cvs : Array Value, cv = .agg cvs ∧ cvs.size = vs.length ∧ ∀ (k : Nat) (v : AV) (cv : Value), vs[k]? = some v → cvs[k]? = some cv → VR C v cv (fun _ => False)) ∧
    (∀ f vs, v = .clo f vs → ∃ cvs : Array Value, cv = .func (.func f) #[] cvs ∧ cvs.size = vs.length ∧ ∀ (k : Nat) (v : AV) (cv : Value), vs[k]? = some v → cvs[k]? = some cv → VR C v cv (fun _ => False)) := by
  refine ⟨fun vs e => ?_, fun f vs e => ?_⟩ <;> subst e
  · cases h with
    | lit v cv h => cases h with
      | agg vs cvs hn hv => exact ⟨cvs, rfl, hn, fun k v cv h1 h2 => .lit _ _ (hv k v cv h1 h2)⟩
    | agg vs cvs Fc F hn hv hF => exact ⟨cvs, rfl, hn, fun k v cv h1 h2 => (hv k v cv h1 h2).noFP fun x hx => ((hF x).2 ⟨k, by rw [h1]; rfl, hx⟩)⟩
  · cases h with
    | lit v cv h => cases h with
      | clo f vs cvs hn hv => exact ⟨cvs, rfl, hn, fun k v cv h1 h2 => .lit _ _ (hv k v cv h1 h2)⟩
    | clo f vs cvs Fc F hn hv hF => exact ⟨cvs, rfl, hn, fun k v cv h1 h2 => (hv k v cv h1 h2).noFP fun x hx => ((hF x).2 ⟨k, by rw [h1]; rfl, hx⟩)⟩
theorem getD_at {cvs : Array Value} {k : Nat} {cv : Value} (h : cvs[k]? = some cv) : cvs.getD k Go.undef = cv := by
  have hlt : k < cvs.size := (Array.getElem?_eq_some_iff.1 h).1
  simp [Array.getD, hlt, (Array.getElem?_eq_some_iff.1 h).2]
theorem at_getD {cvs : Array Value} {k : Nat} (h : k < cvs.size) : cvs[k]? = some (cvs.getD k Go.undef) := by simp [Array.getD, h]
theorem Rel.view1 {fr : Fr} {tm : Nat → Value} {F : Nat → FP} (h : Rel C fr tm F) {x v : AV} {cx : Value} (hx : VR C x cx (fun _ => False)) (hm : fr.view1 x = some v) : FZ C.w (fun _ => False) v cx := by
  by_cases h1 : ∃ xs, x = .agg xs
  · obtain ⟨xs, rfl⟩ := h1
    simp only [Fr.view1, Option.bind_eq_some_iff, Option.some.injEq] at hm
    obtain ⟨vs, h1, rfl⟩ := hm
    obtain ⟨cvs, rfl, hn, hvs⟩ := hx.plainParts.1 xs rfl
    obtain ⟨hl, hv⟩ := Rel.viewL xs (cx := fun k => cvs.getD k Go.undef) h (fun k x hk => hvs k x _ hk (at_getD (by rw [hn]; exact (List.getElem?_eq_some_iff.1 hk).1))) h1
    exact .agg vs cvs (by rw [hn, hl]) (fun k v cv h1 h2 => by have := hv k v h1; rwa [getD_at h2] at this)
  by_cases h2 : ∃ f xs, x = .clo f xs
  · obtain ⟨f, xs, rfl⟩ := h2
    simp only [Fr.view1, Option.bind_eq_some_iff, Option.some.injEq] at hm
    obtain ⟨vs, h1, rfl⟩ := hm
    obtain ⟨cvs, rfl, hn, hvs⟩ := hx.plainParts.2 f xs rfl
    obtain ⟨hl, hv⟩ := Rel.viewL xs (cx := fun k => cvs.getD k Go.undef) h (fun k x hk => hvs k x _ hk (at_getD (by rw [hn]; exact (List.getElem?_eq_some_iff.1 hk).1))) h1
    exact .clo f vs cvs (by rw [hn, hl]) (fun k v cv h1 h2 => by have := hv k v h1; rwa [getD_at h2] at this)
  have hm' : fr.view0 x = some v := by cases x <;> first | exact hm | exact absurd ⟨_, rfl⟩ h1 | exact absurd ⟨_, _, rfl⟩ h2
  exact h.view0 hx hm'
theorem Rel.viewA : ∀ (xs : List AV) {fr : Fr} {tm : Nat → Value} {F : Nat → FP} {vs : List AV} {cx : Nat → Value} (h : Rel C fr tm F) (hx : ∀ k x, xs[k]? = some x → VR C x (cx k) (fun _ => False)) (hm : fr.viewA xs = some vs),
    vs.length = xs.length ∧ (∀ k v, vs[k]? = some v → FZ C.w (fun _ => False) v (cx k))
  | [], fr, tm, F, vs, cx, h, hx, hm => by
    simp only [Fr.viewA, Option.some.injEq] at hm
    subst hm
    exact ⟨rfl, fun k v h => by simp at h⟩
  | x :: xs, fr, tm, F, vs, cx, h, hx, hm => by
    simp only [Fr.viewA, Option.bind_eq_some_iff, Option.some.injEq] at hm
    obtain ⟨v, h1, ws, h2, rfl⟩ := hm
    have ha := h.view1 (hx 0 x rfl) h1
    have hb := Rel.viewA xs (cx := fun k => cx (k + 1)) h (fun k x hk => hx (k + 1) x (by simpa using hk)) h2
    refine ⟨by simp [hb.1], fun k v hk => ?_⟩
    cases k with
    | zero => simp only [List.getElem?_cons_zero, Option.some.injEq] at hk; subst hk; exact ha
    | succ k => simp only [List.getElem?_cons_succ] at hk; exact hb.2 k v hk
end
/-- C with fewer blocks that are written. -/
def Cx.less (C : Cx) (D : FP) : Cx := { C with D := D }
theorem FZ.anyD {w : World} {D D' : FP} {v : AV} {cv : Value} (h : FZ w D v cv) (hD : ∀ x, D' x → D x) : FZ w D' v cv := h.mono fun x _ hx => ⟨rfl, fun h' => hx (hD x h')⟩
/-- A value behind a freezing: what it looks at may be frozen now. -/
theorem VR.less {C : Cx} {v : AV} {cv : Value} {F : FP} (h : VR C v cv F) {D : FP} (hD : ∀ x, D x → C.D x) : VR (C.less D) v cv F :=
  h.mono ⟨Nat.le_refl _, fun _ _ => rfl, fun _ _ => rfl, fun x _ hx => ⟨rfl, fun h' => hx (hD x h')⟩⟩
theorem Rel.ice {C : Cx} {fr : Fr} {tm : Nat → Value} {F : Nat → FP} (h : Rel C fr tm F) {p : Pl} {c : AV} (hg : fr.get p = some c) :
    ∃ D' F', (∀ x, D' x → C.D x) ∧ Rel (C.less D') (fr.put p c.frz) tm F' ∧ (∀ t x, F' t x → F t x) ∧ ∃ cc, (∃ Fc, VR C c cc Fc) ∧ FZ C.w D' c.frz cc := by
  obtain ⟨cc, Fc, hv, hs, hput⟩ := h.lens hg
  have hz : FZ C.w (fun x => C.D x ∧ ¬ Fc x) c.frz cc := hv.frz (fun x hx => hx.1) (fun x hx h' => h'.2 hx)
  refine ⟨fun x => C.D x ∧ ¬ Fc x, _, fun x hx => hx.1, hput (C.less _) c.frz (fun _ => False) (.lit _ _ hz) ⟨Nat.le_refl _, fun _ _ => rfl, fun _ _ => rfl, fun x _ hx => ⟨rfl, fun h' => hx h'.1⟩⟩ (fun _ h => h.elim) (fun _ h => h.elim)
    (fun x h1 h2 => ⟨h1, h2⟩), fun t x hx => ?_, cc, ⟨Fc, hv⟩, hz⟩
  by_cases e : t = p.1
  · simp only [if_pos e] at hx
    subst e
    exact hx.elim (fun h => h.1) (fun h => h.elim)
  · simpa only [if_neg e] using hx
end Go.Proofs.Ytgoajlgkbcongaa.Vm
end
section
set_option linter.unusedVariables false
set_option linter.unusedSimpArgs false
namespace Go.Proofs.Ytgoajlgkbcongaa.Vm
open Go Go.RowKit
structure Base where
  w0 : World
  D0 : FP
  Dv : FP
  η0 : Nat → Value
  g0 : Nat
/-- The headers that were there when the call began. -/
def Eta (K : Base) (C : Cx) : Prop := K.g0 ≤ C.g ∧ ∀ id, id < K.g0 → C.η id = K.η0 id
/-- Of what was there when the call began nothing has turned, but for the blocks of D0. -/
structure Fram (w0 : World) (D0 : FP) (w : World) : Prop where
  os : w.os = w0.os
  tape : w.tape = w0.tape
  output : w.output = w0.output
  size : w0.heap.size ≤ w.heap.size
  block : ∀ x, x < w0.heap.size → ¬ D0 x → w.heap[x]? = w0.heap[x]?
theorem Fram.refl (w : World) (D : FP) : Fram w D w := ⟨rfl, rfl, rfl, Nat.le_refl _, fun _ _ _ => rfl⟩
theorem Fram.trans {a b c : World} {D : FP} (h : Fram a D b) (k : Fram b D c) : Fram a D c :=
  ⟨k.os.trans h.os, k.tape.trans h.tape, k.output.trans h.output, Nat.le_trans h.size k.size, fun x hx hD => (k.block x (Nat.lt_of_lt_of_le hx h.size) hD).trans (h.block x hx hD)⟩
structure StC (K : Base) (fr : Fr) (a : Act) (w : World) (C : Cx) (F : Nat → FP) : Prop where
  hw : C.w = w
  hg : C.g = fr.g
  rel : Rel C fr (fun t => a.tmps.getD t Go.undef) F
  lt : ∀ x, C.D x → x < w.heap.size
  new : ∀ t x, F t x → K.D0 x ∨ K.w0.heap.size ≤ x
  avoid : ∀ x, K.Dv x → C.D x ∧ ∀ t, ¬ F t x
  fram : Fram K.w0 K.D0 w
  defers : a.defers = []
  size : a.tmps.size = fr.n
  eta : Eta K C
def St (K : Base) (fr : Fr) (a : Act) (w : World) : Prop := ∃ C F, StC K fr a w C F
def ofConst : Value → AV
  | .int k n => .int k n
  | .bool b => .bool b
  | .string s => .str s
  | .slice none 0 0 => .nil
  | _ => .undef
def Fr.ev (fr : Fr) : Operand → AV
  | .tmp t => lend2 t (fr.s t)
  | .const v => ofConst v
  | .func f => .fn f
  | .global _ => .undef
def Fr.dst (fr : Fr) (d : Option Tmp) (v : AV) : Option Fr :=
  match d with
  | none => some fr
  | some d => if d < fr.n then some (fr.upd d v) else none
theorem FZ.ofConst (w : World) (D : FP) (v : Value) : FZ w D (Vm.ofConst v) v := by
  unfold Vm.ofConst
  split <;> constructor
theorem StC.ev {K : Base} {fr : Fr} {a : Act} {w : World} {C : Cx} {F : Nat → FP} (h : StC K fr a w C F) (x : Operand) : VR C (fr.ev x) (a.eval x) (fun _ => False) := by
  cases x with
  | tmp t => exact (h.rel.vr t).lend2 t
  | const v => exact .lit _ _ (.ofConst _ _ v)
  | func f => exact .lit _ _ (.fn f)
  | global g => exact .lit _ _ (.undef _)
/-- What one operation does, told of frames. -/
def OpS (P : Program) (K : Base) (o : Oper) (fr fr' : Fr) : Prop :=
  ∀ a w, St K fr a w → ∀ (next : Act → World → Prop) (Q : Exit → Act → World → Prop), (∀ a' w', St K fr' a' w' → next a' w') → o.wp P a w next Q
theorem tmps_put {a : Act} {d : Nat} (cv : Value) (h : d < a.tmps.size) (t : Nat) : (a.put (some d) cv).tmps.getD t Go.undef = if t = d then cv else a.tmps.getD t Go.undef := by
  simp only [Act.put, Array.getD_eq_getD_getElem?, Array.getElem?_setIfInBounds]
  by_cases e : d = t
  · subst e; simp [h]
  · simp [e, Ne.symm e]
/-- A value behind an operation, laid into its slot. -/
theorem StC.put {K : Base} {fr fr' : Fr} {a : Act} {w' : World} {C' : Cx} {F' : Nat → FP} {v : AV} {cv : Value} {Fv : FP} {d : Option Tmp} (eta : Eta K C') (hw : C'.w = w') (hg : C'.g = fr.g) (rel : Rel C' fr (fun t => a.tmps.getD t Go.undef) F')
    (hv : VR C' v cv Fv) (hdis : ∀ t x, F' t x → ¬ Fv x) (hsub : ∀ x, Fv x → C'.D x) (lt : ∀ x, C'.D x → x < w'.heap.size) (new : ∀ t x, F' t x → K.D0 x ∨ K.w0.heap.size ≤ x) (newv : ∀ x, Fv x → K.D0 x ∨ K.w0.heap.size ≤ x)
    (avoid : ∀ x, K.Dv x → C'.D x ∧ (∀ t, ¬ F' t x) ∧ ¬ Fv x) (fram : Fram K.w0 K.D0 w') (defers : a.defers = []) (size : a.tmps.size = fr.n) (hd : fr.dst d v = some fr') : St K fr' (a.put d cv) w' := by
  cases d with
  | none =>
    simp only [Fr.dst, Option.some.injEq] at hd
    subst hd
    exact ⟨C', F', hw, hg, rel, lt, new, fun x hx => ⟨(avoid x hx).1, (avoid x hx).2.1⟩, fram, defers, size, eta⟩
  | some d =>
    simp only [Fr.dst] at hd
    by_cases hlt : d < fr.n
    · rw [if_pos hlt, Option.some.injEq] at hd
      subst hd
      have hlt' : d < a.tmps.size := by rw [size]; exact hlt
      refine ⟨C', fun t => if t = d then Fv else F' t, hw, hg, ⟨fun t => ?_, fun t t' x h1 h2 => ?_, fun t x h1 => ?_⟩, lt, fun t x h1 => ?_, fun x hx => ⟨(avoid x hx).1, fun t => ?_⟩, fram, defers, by simp [Act.put, size, Fr.upd], eta⟩
      · rw [tmps_put cv hlt', Fr.s_upd]
        by_cases e : t = d
        · simp only [if_pos e]; exact hv
        · simp only [if_neg e]; exact rel.vr t
      · by_cases e : t = d <;> by_cases e' : t' = d
        · rw [e, e']
        · simp only [if_pos e, if_neg e'] at h1 h2; exact absurd h1 (hdis t' x h2)
        · simp only [if_neg e, if_pos e'] at h1 h2; exact absurd h2 (hdis t x h1)
        · simp only [if_neg e, if_neg e'] at h1 h2; exact rel.dis t t' x h1 h2
      · by_cases e : t = d
        · simp only [if_pos e] at h1; exact hsub x h1
        · simp only [if_neg e] at h1; exact rel.sub t x h1
      · by_cases e : t = d
        · simp only [if_pos e] at h1; exact newv x h1
        · simp only [if_neg e] at h1; exact new t x h1
      · by_cases e : t = d
        · simp only [if_pos e]; exact (avoid x hx).2.2
        · simp only [if_neg e]; exact (avoid x hx).2.1 t
    · rw [if_neg hlt] at hd; cases hd
theorem wp_value {P : Program} {o : Oper} {a : Act} {w w' : World} {cv : Value} {next : Act → World → Prop} {Q : Exit → Act → World → Prop} (h : (execOp a.eval o).run P w = .ok (.value cv) w') (hn : next (a.put o.dst cv) w') : o.wp P a w next Q := by
  unfold Oper.wp; rw [h]; exact hn
theorem wp_skipv {P : Program} {o : Oper} {a : Act} {w w' : World} {next : Act → World → Prop} {Q : Exit → Act → World → Prop} (h : (execOp a.eval o).run P w = .ok .skip w') (hn : next (a.put o.dst Go.undef) w') : o.wp P a w next Q := by
  unfold Oper.wp; rw [h]; exact hn
/-- An operation that changes nothing of what the frame tells and makes a value that owns nothing. -/
def Quiet (P : Program) (o : Oper) (fr : Fr) (v : AV) : Prop :=
  ∀ (K : Base) (a : Act) (w : World) (C : Cx) (F : Nat → FP), StC K fr a w C F → ∀ (next : Act → World → Prop) (Q : Exit → Act → World → Prop),
    (∀ cv w', Fram w (fun _ => False) w' → VR { C with w := w' } v cv (fun _ => False) → next (a.put o.dst cv) w') → o.wp P a w next Q
theorem Quiet.ofRun {P : Program} {fr : Fr} {o : Oper} {v : AV} (h : ∀ (K : Base) (a : Act) (w : World) (C : Cx) (F : Nat → FP), StC K fr a w C F → ∃ cv, (execOp a.eval o).run P w = .ok (.value cv) w ∧ VR C v cv (fun _ => False)) : Quiet P o fr v := by
  intro K a w C F hs next Q hn
  obtain ⟨cv, hr, hv⟩ := h K a w C F hs
  refine wp_value hr (hn cv w (Fram.refl _ _) ?_)
  have := hs.hw
  obtain ⟨w0, D, η, g⟩ := C
  simp only at this
  subst this
  exact hv
/-- The value of an operation that moves what it takes. -/
theorem OpS.moved {P : Program} {K : Base} {o : Oper} {fr fr1 fr' : Fr} {x : Operand} {v : AV} (hm : fr.mat1 (fr.ev x) = some (v, fr1)) (hd : fr1.dst o.dst v = some fr')
    (h : ∀ (a : Act) (w : World), (execOp a.eval o).run P w = .ok (.value (a.eval x)) w) : OpS P K o fr fr' := by
  rintro a w ⟨C, F, hs⟩ next Q hn
  obtain ⟨F', Fv, hv, hmv⟩ := hs.rel.mat1 (hs.ev x) hm
  refine wp_value (h a w) (hn _ _ ?_)
  refine StC.put hs.eta hs.hw (hs.hg.trans hmv.g.symm) hmv.rel hv hmv.dis (fun x hx => let ⟨t, ht⟩ := hmv.own x hx; hs.rel.sub t x ht) hs.lt (fun t x hx => hs.new t x (hmv.sub t x hx)) (fun x hx => let ⟨t, ht⟩ := hmv.own x hx; hs.new t x ht)
    (fun x hx => ⟨(hs.avoid x hx).1, fun t h1 => (hs.avoid x hx).2 t (hmv.sub t x h1), fun h1 => let ⟨t, ht⟩ := hmv.own x h1; (hs.avoid x hx).2 t ht⟩) hs.fram hs.defers (hs.size.trans hmv.n.symm) hd
section
variable {P : Program} {K : Base} {o : Oper} {fr fr' : Fr}
theorem Quiet.move {x : Operand} (ho : o.op = .move x) : Quiet P o fr (fr.ev x) :=
  .ofRun fun K a w C F hs => ⟨a.eval x, by simp [execOp, ho], hs.ev x⟩
theorem OpS.assign {x : Operand} {fr1 : Fr} {v : AV} (ho : o.op = .assign x) (hm : fr.mat1 (fr.ev x) = some (v, fr1)) (hd : fr1.dst o.dst v = some fr') : OpS P K o fr fr' :=
  .moved hm hd fun a w => by simp [execOp, ho]
theorem VR.isInt {C : Cx} {k : IntKind} {n : Int} {cv : Value} {F : FP} (h : VR C (.int k n) cv F) : cv = .int k n := by
  cases h with | lit v cv h => cases h; rfl
theorem VR.isBool {C : Cx} {b : Bool} {cv : Value} {F : FP} (h : VR C (.bool b) cv F) : cv = .bool b := by
  cases h with | lit v cv h => cases h; rfl
theorem VR.isStr {C : Cx} {s : ByteArray} {cv : Value} {F : FP} (h : VR C (.str s) cv F) : cv = .string s := by
  cases h with | lit v cv h => cases h; rfl
theorem VR.isFn {C : Cx} {f : FuncId} {cv : Value} {F : FP} (h : VR C (.fn f) cv F) : cv = .func (.func f) #[] #[] := by
  cases h with | lit v cv h => cases h; rfl
theorem Quiet.pick {c x y : Operand} {b : Bool} (ho : o.op = .pick c x y) (hc : fr.ev c = .bool b) : Quiet P o fr (if b then fr.ev x else fr.ev y) :=
  .ofRun fun K a w C F hs => by
    have h1 := hs.ev c
    rw [hc] at h1
    refine ⟨if b then a.eval x else a.eval y, by simp [execOp, ho, h1.isBool, asBool], ?_⟩
    cases b
    · exact hs.ev y
    · exact hs.ev x
/-- The binary operations on numbers, bools, strings. -/
def xBin : BinOp → AV → AV → Option AV
  | .add, .int k a, .int k' b => if k = k' then some (.int k (k.wrap (a + b))) else none
  | .sub, .int k a, .int k' b => if k = k' then some (.int k (k.wrap (a - b))) else none
  | .mul, .int k a, .int k' b => if k = k' then some (.int k (k.wrap (a * b))) else none
  | .eql, .int k a, .int k' b => if k = k' then some (.bool (a == b)) else none
  | .neq, .int k a, .int k' b => if k = k' then some (.bool (a != b)) else none
  | .lss, .int k a, .int k' b => if k = k' then some (.bool (decide (a < b))) else none
  | .leq, .int k a, .int k' b => if k = k' then some (.bool (decide (a ≤ b))) else none
  | .gtr, .int k a, .int k' b => if k = k' then some (.bool (decide (a > b))) else none
  | .geq, .int k a, .int k' b => if k = k' then some (.bool (decide (a ≥ b))) else none
  | .quo, .int k a, .int k' b => if k = k' ∧ b ≠ 0 then some (.int k (k.wrap (a.tdiv b))) else none
  | .rem, .int k a, .int k' b => if k = k' ∧ b ≠ 0 then some (.int k (a.tmod b)) else none
  | _, _, _ => none
theorem xBin_int {op : BinOp} {u u' v : AV} (hv : xBin op u u' = some v) : ∃ k p q, u = .int k p ∧ u' = .int k q := by
  unfold xBin at hv
  split at hv <;> first
    | (cases hv; done)
    | (split at hv <;> first
        | (cases hv; done)
        | (rename_i e; obtain rfl := e; exact ⟨_, _, _, rfl, rfl⟩)
        | (rename_i e; obtain ⟨rfl, _⟩ := e; exact ⟨_, _, _, rfl, rfl⟩))
theorem Quiet.binInt {op : BinOp} {t t' : TypeId} {x y : Operand} {v : AV} (ho : o.op = .binOp op t x y t') (hv : xBin op (fr.ev x) (fr.ev y) = some v) : Quiet P o fr v := by
  refine .ofRun fun K a w C F hs => ?_
  have hx := hs.ev x
  have hy := hs.ev y
  generalize fr.ev x = u at hx hv
  generalize fr.ev y = u' at hy hv
  obtain ⟨k, p, q, rfl, rfl⟩ := xBin_int hv
  have e1 := hx.isInt
  have e2 := hy.isInt
  cases op <;> simp only [xBin, true_and, if_true] at hv <;> first
    | (cases hv; done)
    | (cases hv; refine ⟨_, ?_, .lit _ _ (by first | exact .int _ _ | exact .bool _)⟩; simp [execOp, ho, e1, e2, eqGuard_at_int, binOp, Op.intArith, Op.intCmp])
    | (split at hv <;> first
        | (cases hv; done)
        | (rename_i hq; cases hv; refine ⟨_, ?_, .lit _ _ (.int _ _)⟩; simp [execOp, ho, e1, e2, eqGuard_at_int, binOp, Op.intDiv, hq]))
end
end Go.Proofs.Ytgoajlgkbcongaa.Vm
end
section
set_option linter.unusedVariables false
set_option linter.unusedSimpArgs false
namespace Go.Proofs.Ytgoajlgkbcongaa.Vm
open Go Go.RowKit
def shp (P : Program) (t : TypeId) : Option (Option Nat) :=
  match P.underlying t, P.info? t with
  | some (.struct _), some i => some (some i.size)
  | some (.array _ _), some i => some (some i.size)
  | some _, some i => if i.size = 1 then some none else none
  | _, _ => none
def elsz (P : Program) (t : TypeId) : Option Nat :=
  match P.underlying t with
  | some (.slice e) => (P.info? e).map (·.size)
  | _ => none
def fldOff (P : Program) (s : TypeId) (i : Nat) : Option Nat :=
  match P.underlying s with
  | some (.struct fs) => (fs[i]?).bind fun f => (P.info? f.type).bind fun i => if i.size = 0 then none else some f.offset
  | _ => none
def intk (P : Program) (t : TypeId) : Option IntKind :=
  match P.underlying t with
  | some (.int k) => some k
  | _ => none
section
variable {P : Program} {K : Base} {o : Oper} {fr fr' : Fr}
theorem run_isAgg {t : TypeId} {x : Option Nat} (h : shp P t = some x) (w : World) : (isAgg t).run P w = .ok x.isSome w := by
  unfold shp at h
  cases hu : P.underlying t with
  | none => simp [hu] at h
  | some d =>
    cases hi : P.info? t with
    | none => cases d <;> simp [hu, hi] at h
    | some i =>
      cases d <;> simp only [hu, hi] at h <;> first
        | (cases h; simp [isAgg, run_underlying hu]; done)
        | (split at h <;> first | (cases h; simp [isAgg, run_underlying hu]; done) | (cases h; done))
theorem run_sizeOf_shp {t : TypeId} {n : Nat} (h : shp P t = some (some n)) (w : World) : (sizeOf t).run P w = .ok n w := by
  unfold shp at h
  split at h <;> simp_all [sizeOf, typeInfo]
theorem run_loadVar_one {t : TypeId} (h : shp P t = some none) {w : World} {a : Addr} {v : Value} (hc : w.cell? a = some v) : (loadVar t a).run P w = .ok v w := by
  simp [loadVar, run_isAgg h, Go.load, Sem.run, hc]
theorem run_loadVar_agg {t : TypeId} {n : Nat} (h : shp P t = some (some n)) {w : World} {a : Addr} (cvs : Array Value) (hn : cvs.size = n) (hc : ∀ k v, cvs[k]? = some v → w.cell? (a.add k) = some v) : (loadVar t a).run P w = .ok (.agg cvs) w := by
  have hl := run_loadCells_list (P := P) w a cvs.toList (fun j v hj => hc j v (by simpa using hj))
  simp only [Array.length_toList, hn, Array.toArray_toList] at hl
  simp [loadVar, run_isAgg h, run_sizeOf_shp h, hl]
/-- A row's cells from k on, looked at where they stand. -/
def ldRow (P : Program) (t : TypeId) (t0 : Nat) (q : List (Nat × Nat)) (j k : Nat) (row : List AV) : Option AV :=
  match shp P t with
  | some none => (row[k]?).map (lend0 (t0, q ++ [(j, k)]))
  | some (some n) => if k + n ≤ row.length then some (.agg (lendL t0 q j k ((row.drop k).take n))) else none
  | none => none
def ldFrz (P : Program) (t : TypeId) (k : Nat) (row : List AV) : Option AV :=
  match shp P t with
  | some none => row[k]?
  | some (some n) => if k + n ≤ row.length then some (.agg ((row.drop k).take n)) else none
  | none => none
def xLoad (P : Program) (fr : Fr) (t : TypeId) (x : AV) : Option AV :=
  match x with
  | .adr p id sz j k => match fr.get p with
    | some (.own id' sz' rows) => if id' = id ∧ sz' = sz then (rows[j]?).bind (ldRow P t p.1 p.2 j k) else none
    | some (.box id' cells) => if id' = id ∧ j = 0 then ldRow P t p.1 p.2 0 k cells else none
    | _ => none
  | .fad row k => ldFrz P t k row
  | _ => none
theorem ldRow_sound {C : Cx} {t : TypeId} {t0 : Nat} {q : List (Nat × Nat)} {j k : Nat} {row : List AV} {v : AV} {b o : Nat} {cvs : Nat → Value} {Fc : Nat → FP} (h : ldRow P t t0 q j k row = some v)
    (hc : ∀ i u, row[i]? = some u → C.w.cell? ⟨b, o + i, none⟩ = some (cvs i)) (hv : ∀ i u, row[i]? = some u → VR C u (cvs i) (Fc i)) :
    ∃ cv, (loadVar t ⟨b, o + k, none⟩).run P C.w = .ok cv C.w ∧ VR C v cv (fun _ => False) := by
  unfold ldRow at h
  split at h
  · rename_i hs
    obtain ⟨u, hu, rfl⟩ := Option.map_eq_some_iff.1 h
    exact ⟨_, run_loadVar_one hs (hc k u hu), (hv k u hu).lend0 _⟩
  · rename_i n hs
    by_cases hle : k + n ≤ row.length
    · rw [if_pos hle, Option.some.injEq] at h
      subst h
      refine ⟨.agg ((Array.range n).map fun i => cvs (k + i)), run_loadVar_agg hs _ (by simp) (fun i v hi => ?_), ?_⟩
      · have hin : i < n := by have := (Array.getElem?_eq_some_iff.1 hi).1; simpa using this
        simp [hin] at hi
        subst hi
        have hk : row[k + i]? = some (row[k + i]'(by omega)) := List.getElem?_eq_getElem (by omega)
        have := hc (k + i) _ hk
        rw [Addr.add_lit, Nat.add_assoc]; exact this
      · refine VR.plainList (mk := .agg) (cvs := (Array.range n).map fun i => cvs (k + i)) (by simp [lendL_length]; omega) (fun i v cv h1 h2 => ?_) (fun Fc F a b c d => .agg _ _ Fc F a b c d)
        rw [lendL_at] at h1
        obtain ⟨u, hu, rfl⟩ := Option.map_eq_some_iff.1 h1
        have hin : i < n := by have := (Array.getElem?_eq_some_iff.1 h2).1; simpa using this
        simp [hin] at h2
        subst h2
        rw [List.getElem?_take, if_pos hin, List.getElem?_drop] at hu
        exact (hv _ _ hu).lend0 _
    · rw [if_neg hle] at h; cases h
  · cases h
theorem ldFrz_sound {w : World} {D : FP} {t : TypeId} {k : Nat} {row : List AV} {v : AV} {b o : Nat} {cvs : Nat → Value} (h : ldFrz P t k row = some v)
    (hc : ∀ i u, row[i]? = some u → w.cell? ⟨b, o + i, none⟩ = some (cvs i)) (hv : ∀ i u, row[i]? = some u → FZ w D u (cvs i)) :
    ∃ cv, (loadVar t ⟨b, o + k, none⟩).run P w = .ok cv w ∧ FZ w D v cv := by
  unfold ldFrz at h
  split at h
  · rename_i hs
    exact ⟨_, run_loadVar_one hs (hc k v h), hv k v h⟩
  · rename_i n hs
    by_cases hle : k + n ≤ row.length
    · rw [if_pos hle, Option.some.injEq] at h
      subst h
      refine ⟨.agg ((Array.range n).map fun i => cvs (k + i)), run_loadVar_agg hs _ (by simp) (fun i v hi => ?_), .agg _ _ (by simp; omega) (fun i v cv h1 h2 => ?_)⟩
      · have hin : i < n := by have := (Array.getElem?_eq_some_iff.1 hi).1; simpa using this
        simp [hin] at hi
        subst hi
        have hk : row[k + i]? = some (row[k + i]'(by omega)) := List.getElem?_eq_getElem (by omega)
        have := hc (k + i) _ hk
        rw [Addr.add_lit, Nat.add_assoc]; exact this
      · have hin : i < n := by have := (Array.getElem?_eq_some_iff.1 h2).1; simpa using this
        simp [hin] at h2
        subst h2
        rw [List.getElem?_take, if_pos hin, List.getElem?_drop] at h1
        exact hv _ _ h1
    · rw [if_neg hle] at h; cases h
  · cases h
theorem cell_row {rows : List (List AV)} {j k : Nat} {row : List AV} {v : AV} (h : rows[j]? = some row) (hk : row[k]? = some v) : cell rows j k = some v := by simp [cell, h, hk]
theorem xLoad_sound {C : Cx} {tm : Nat → Value} {F : Nat → FP} (h : Rel C fr tm F) {t : TypeId} {x v : AV} {cx : Value} (hx : VR C x cx (fun _ => False)) (hl : xLoad P fr t x = some v) :
    ∃ cv, (Instr.loadAt t cx).run P C.w = .ok cv C.w ∧ VR C v cv (fun _ => False) := by
  unfold xLoad at hl
  split at hl
  · rename_i p id sz j k
    obtain ⟨b, rfl, hb, _⟩ := hx.adrHdr
    cases hg : fr.get p with
    | none => simp [hg] at hl
    | some c =>
      obtain ⟨cc, Fc, F', hv, _⟩ := h.take hg
      cases c with
      | own id' sz' rows =>
        simp only [hg] at hl
        split at hl
        · rename_i e
          obtain ⟨rfl, rfl⟩ := e
          obtain ⟨row, hr, hl⟩ := Option.bind_eq_some_iff.1 hl
          cases hv with
          | lit v cv h => cases h
          | ownNil => simp at hr
          | own id sz rows b' n cap e cur cvs Fc F hid hη hn hsz hcap hmax hhb hcur hone hcell hvv hF hdis hself =>
            rw [hη] at hb
            simp only [blockOf, Option.some.injEq] at hb
            subst hb
            obtain ⟨cv, h1, h2⟩ := ldRow_sound (C := C) (b := b') (o := j * sz') (cvs := cvs j) (Fc := Fc j) hl (fun i u hu => by rw [cell_of_cells hhb]; exact hcell j i u (cell_row hr hu)) (fun i u hu => hvv j i u (cell_row hr hu))
            exact ⟨cv, by simpa [Instr.loadAt, Instr.sureAddr] using h1, h2⟩
        · cases hl
      | box id' cells =>
        simp only [hg] at hl
        split at hl
        · rename_i e
          obtain ⟨rfl, rfl⟩ := e
          cases hv with
          | lit v cv h => cases h
          | box id cells b' e cur cvs Fc F hid hη hhb hcur hone hcell hvv hF hdis hself =>
            rw [hη] at hb
            simp only [blockOf, Option.some.injEq] at hb
            subst hb
            obtain ⟨cv, h1, h2⟩ := ldRow_sound (C := C) (b := b') (o := 0) (cvs := cvs) (Fc := Fc) hl (fun i u hu => by rw [cell_of_cells hhb, Nat.zero_add]; exact hcell i u hu) hvv
            exact ⟨cv, by simpa [Instr.loadAt, Instr.sureAddr] using h1, h2⟩
        · cases hl
      | _ => simp [hg] at hl
  · rename_i row k
    cases hx with
    | lit v cv h =>
      cases h with
      | fad row k b o cvs hlt hD hcell hv hone =>
        obtain ⟨cv, h1, h2⟩ := ldFrz_sound hl hcell hv
        exact ⟨cv, by simpa [Instr.loadAt, Instr.sureAddr] using h1, .lit _ _ h2⟩
  · cases hl
theorem Quiet.load {t : TypeId} {x : Operand} {v : AV} (ho : o.op = .load t x) (hv : xLoad P fr t (fr.ev x) = some v) : Quiet P o fr v :=
  .ofRun fun K a w C F hs => by
    obtain ⟨cv, h1, h2⟩ := xLoad_sound hs.rel (hs.ev x) hv
    rw [hs.hw] at h1
    exact ⟨cv, by simp [execOp, ho, h1], h2⟩
def xField (P : Program) (s : TypeId) (x : AV) (i : Nat) : Option AV :=
  (fldOff P s i).bind fun off => match x with
  | .adr p id sz j k => some (.adr p id sz j (k + off))
  | .fad row k => some (.fad row (k + off))
  | _ => none
theorem Quiet.fieldAddr {s : TypeId} {x : Operand} {i : Nat} {v : AV} (ho : o.op = .fieldAddr s x i) (hv : xField P s (fr.ev x) i = some v) : Quiet P o fr v :=
  .ofRun fun K a w C F hs => by
    have hx := hs.ev x
    obtain ⟨off, hoff, hv⟩ := Option.bind_eq_some_iff.1 hv
    have hrun : ∀ b k, (Instr.fieldAt s (.pointer (some ⟨b, k, none⟩)) i).run P w = .ok (.pointer (some ⟨b, k + off, none⟩)) w := by
      intro b k
      unfold fldOff at hoff
      split at hoff
      · rename_i fs hfs
        obtain ⟨f, hf, hoff⟩ := Option.bind_eq_some_iff.1 hoff
        obtain ⟨inf, hinf, hoff⟩ := Option.bind_eq_some_iff.1 hoff
        split at hoff
        · cases hoff
        · rename_i hne
          cases hoff
          simp [Instr.fieldAt, run_underlying hfs, hf, Instr.sureAddr, fieldPlace, sizeOf, typeInfo, hinf, hne, Addr.add_lit]
      · cases hoff
    generalize fr.ev x = u at hx hv
    generalize hcx : a.eval x = cx at hx
    split at hv
    · cases hv
      obtain ⟨b, e, hb, hid⟩ := hx.adrHdr
      refine ⟨_, ?_, .adr _ _ _ _ _ b hid hb⟩
      simp [execOp, ho, hcx, e, hrun, Nat.add_assoc]
    · cases hv
      cases hx with
      | lit v cv h =>
        cases h with
        | fad row k b o cvs hlt hD hcell hv hone =>
          refine ⟨_, ?_, .lit _ _ (.fad _ _ b o cvs hlt hD hcell hv hone)⟩
          simp [execOp, ho, hcx, hrun, Nat.add_assoc]
    · cases hv
end
end Go.Proofs.Ytgoajlgkbcongaa.Vm
end
section
set_option linter.unusedVariables false
set_option linter.unusedSimpArgs false
namespace Go.Proofs.Ytgoajlgkbcongaa.Vm
open Go Go.RowKit
def xIndex (P : Program) (fr : Fr) (t : TypeId) (x i : AV) : Option AV :=
  match i with
  | .int _ n => if 0 ≤ n then
      match x with
      | .bor p id => match fr.get p with
        | some (.own id' sz rows) => if id' = id ∧ elsz P t = some sz ∧ n.toNat < rows.length then some (.adr p id sz n.toNat 0) else none
        | _ => none
      | .fz rows => (rows[n.toNat]?).bind fun row => if elsz P t = some row.length then some (.fad row 0) else none
      | _ => none
    else none
  | _ => none
def xLen (fr : Fr) (x : AV) : Option Nat :=
  match x with
  | .bor p id => match fr.get p with
    | some (.own id' sz rows) => if id' = id then some rows.length else none
    | _ => none
  | .fz rows => some rows.length
  | .nil => some 0
  | _ => none
/-- A cut of what is frozen. -/
def xCut (P : Program) (t : TypeId) (x : AV) (lo hi : Option AV) : Option AV :=
  match x with
  | .fz rows =>
    (match hi with | none => some rows.length | some (.int _ h) => if 0 ≤ h ∧ h.toNat ≤ rows.length then some h.toNat else none | _ => none).bind fun h =>
    (match lo with | none => some 0 | some (.int _ l) => if 0 ≤ l ∧ l.toNat ≤ h then some l.toNat else none | _ => none).bind fun l =>
    (elsz P t).bind fun s => if rows.all (fun r => r.length == s) then some (.fz ((rows.take h).drop l)) else none
  | _ => none
section
variable {P : Program} {K : Base} {o : Oper} {fr fr' : Fr}
theorem elsz_slice {t : TypeId} {s : Nat} (h : elsz P t = some s) : P.underlying t = some (.slice (P.elem t)) ∧ ∃ i, P.info? (P.elem t) = some i ∧ i.size = s := by
  unfold elsz at h
  split at h
  · rename_i e he
    obtain ⟨i, hi, rfl⟩ := Option.map_eq_some_iff.1 h
    have : P.elem t = e := by simp [Program.elem, he]
    rw [this]
    exact ⟨he, i, hi, rfl⟩
  · cases h
theorem run_index {t : TypeId} {s : Nat} (h : elsz P t = some s) (b o len cap : Nat) (k : IntKind) (i : Int) (h0 : 0 ≤ i) (h1 : i.toNat < len) (w : World) :
    (Instr.indexAt t (.slice (some ⟨b, o, none⟩) len cap) (.int k i)).run P w = .ok (.pointer (some ⟨b, o + i.toNat * s, none⟩)) w := by
  obtain ⟨hu, inf, hi, rfl⟩ := elsz_slice h
  rw [run_indexAt_slice w t _ len cap k i hu, if_pos ⟨h0, by omega⟩]
  simp [sizeOf, typeInfo, hi, Addr.add_lit]
theorem xIndex_sound {C : Cx} {tm : Nat → Value} {F : Nat → FP} (h : Rel C fr tm F) {t : TypeId} {x i v : AV} {cx ci : Value} (hx : VR C x cx (fun _ => False)) (hi : VR C i ci (fun _ => False)) (hl : xIndex P fr t x i = some v) :
    ∃ cv, (Instr.indexAt t cx ci).run P C.w = .ok cv C.w ∧ VR C v cv (fun _ => False) := by
  unfold xIndex at hl
  split at hl
  · rename_i k n
    split at hl
    · rename_i h0
      obtain rfl := hi.isInt
      split at hl
      · rename_i p id
        obtain ⟨rfl, hid⟩ := hx.borHdr
        cases hg : fr.get p with
        | none => simp [hg] at hl
        | some c =>
          obtain ⟨cc, Fc, F', hv, _⟩ := h.take hg
          cases c with
          | own id' sz rows =>
            simp only [hg] at hl
            split at hl
            · rename_i e
              obtain ⟨rfl, hs, hlt⟩ := e
              cases hl
              cases hv with
              | lit v cv h => cases h
              | ownNil => simp at hlt
              | own id sz rows b n' cap e cur cvs Fc F hid' hη hn =>
                rw [hη]
                refine ⟨_, run_index hs b 0 n' cap k n h0 (by omega) C.w, ?_⟩
                rw [Nat.zero_add]
                exact .adr p id' sz n.toNat 0 b hid (by rw [hη]; rfl)
            · cases hl
          | _ => simp [hg] at hl
      · rename_i rows
        obtain ⟨row, hr, hl⟩ := Option.bind_eq_some_iff.1 hl
        split at hl
        · rename_i hs
          cases hl
          cases hx with
          | lit v cv hf =>
            cases hf with
            | fz rows A n' cap sz cvs hn hsz hcap hmax hcell hvv hone =>
              have hlt : n.toNat < n' := by rw [← hn]; exact (List.getElem?_eq_some_iff.1 hr).1
              obtain ⟨b, o, rfl, hb, hD, hc⟩ := hcell (by omega)
              have hsz' : row.length = sz := hsz row (List.mem_of_getElem? hr)
              refine ⟨_, run_index hs b o n' cap k n h0 hlt C.w, .lit _ _ (.fad row 0 b (o + n.toNat * row.length) (cvs n.toNat) hb hD (fun i u hu => ?_) (fun i u hu => hvv _ _ _ (cell_row hr hu)) (fun i u hu => hone _ _ _ (cell_row hr hu)))⟩
              have := hc _ _ _ (cell_row hr hu)
              rwa [← hsz', ← Nat.add_assoc] at this
        · cases hl
      · cases hl
    · cases hl
  · cases hl
theorem Quiet.indexAddr {t : TypeId} {x i : Operand} {v : AV} (ho : o.op = .indexAddr t x i) (hv : xIndex P fr t (fr.ev x) (fr.ev i) = some v) : Quiet P o fr v :=
  .ofRun fun K a w C F hs => by
    obtain ⟨cv, h1, h2⟩ := xIndex_sound hs.rel (hs.ev x) (hs.ev i) hv
    rw [hs.hw] at h1
    exact ⟨cv, by simp [execOp, ho, h1], h2⟩
theorem xLen_sound {C : Cx} {tm : Nat → Value} {F : Nat → FP} (h : Rel C fr tm F) {x : AV} {cx : Value} {n : Nat} (hx : VR C x cx (fun _ => False)) (hl : xLen fr x = some n) : ∃ A cap, cx = .slice A n cap := by
  unfold xLen at hl
  split at hl
  · rename_i p id
    obtain ⟨rfl, hid⟩ := hx.borHdr
    cases hg : fr.get p with
    | none => simp [hg] at hl
    | some c =>
      obtain ⟨cc, Fc, F', hv, _⟩ := h.take hg
      cases c with
      | own id' sz rows =>
        simp only [hg] at hl
        split at hl
        · rename_i e
          subst e
          cases hl
          cases hv with
          | lit v cv h => cases h
          | ownNil id sz hid hη => exact ⟨none, 0, by rw [hη]; rfl⟩
          | own id sz rows b n' cap e cur cvs Fc F hid' hη hn => exact ⟨_, cap, by rw [hη, ← hn]⟩
        · cases hl
      | _ => simp [hg] at hl
  · cases hl
    cases hx with
    | lit v cv hf => cases hf with
      | fz rows A n' cap sz cvs hn => exact ⟨A, cap, by rw [hn]⟩
  · cases hl
    cases hx with
    | lit v cv hf => cases hf; exact ⟨none, 0, rfl⟩
  · cases hl
theorem Quiet.len {t : TypeId} {x : Operand} {n : Nat} (ho : o.op = .call { callee := .builtin .len, args := #[x], argTypes := #[t] }) (ht : (elsz P t).isSome) (hv : xLen fr (fr.ev x) = some n) : Quiet P o fr (.int .i64 n) :=
  .ofRun fun K a w C F hs => by
    obtain ⟨s, hs'⟩ := Option.isSome_iff_exists.1 ht
    obtain ⟨A, cap, hc⟩ := xLen_sound hs.rel (hs.ev x) hv
    refine ⟨.int .i64 n, ?_, .lit _ _ (.int _ _)⟩
    simp [execOp, ho, resolve, invoke, builtin, hc, run_len_slice w t _ A n cap (elsz_slice hs').1, goInt]
theorem run_cut {t : TypeId} {s : Nat} (h : elsz P t = some s) (w : World) (A : Option Addr) (n cap l h' : Nat) (lo hi : Option Value) (hlo : lo = none ∧ l = 0 ∨ ∃ k, lo = some (.int k l)) (hhi : hi = none ∧ h' = n ∨ ∃ k, hi = some (.int k h')) (hlh : l ≤ h') (hhc : h' ≤ cap) :
    (Instr.sliceAt t (.slice A n cap) lo hi none).run P w = .ok (.slice (if cap = l then A else A.map (·.add (l * s))) (h' - l) (cap - l)) w := by
  obtain ⟨hu, inf, hi', rfl⟩ := elsz_slice h
  have h1 : (l : Int) ≤ (h' : Int) := by omega
  have h2 : (h' : Int) ≤ (cap : Int) := by omega
  rcases hlo with ⟨rfl, rfl⟩ | ⟨k, rfl⟩ <;> rcases hhi with ⟨rfl, rfl⟩ | ⟨k', rfl⟩ <;>
    simp [Instr.sliceAt, run_underlying hu, Instr.slice, Instr.sliceBounds, Instr.sliceBound, asIntOf, sizeOf, typeInfo, hi', h1, h2, hlh, hhc]
theorem Quiet.cut {t : TypeId} {x : Operand} {lo hi : Option Operand} {v : AV} (ho : o.op = .slice t x lo hi none) (hv : xCut P t (fr.ev x) (lo.map fr.ev) (hi.map fr.ev) = some v) : Quiet P o fr v :=
  .ofRun fun K a w C F hs => by
    have hx := hs.ev x
    generalize fr.ev x = u at hx hv
    generalize hcx : a.eval x = cx at hx
    unfold xCut at hv
    split at hv
    · rename_i rows
      obtain ⟨h', hh, hv⟩ := Option.bind_eq_some_iff.1 hv
      obtain ⟨l, hl, hv⟩ := Option.bind_eq_some_iff.1 hv
      obtain ⟨s, hs', hv⟩ := Option.bind_eq_some_iff.1 hv
      split at hv
      · rename_i hall
        cases hv
        cases hx with
        | lit v cv hf =>
          cases hf with
          | fz rows A n cap sz cvs hn hsz hcap hmax hcell hvv hone =>
            have hhi : hi.map a.eval = none ∧ h' = n ∨ ∃ k, hi.map a.eval = some (.int k h') := by
              cases hi with
              | none => simp only [Option.map_none, Option.some.injEq] at hh; exact .inl ⟨rfl, by omega⟩
              | some y =>
                have hy := hs.ev y
                simp only [Option.map_some] at hh
                generalize fr.ev y = z at hy hh
                cases z <;> simp at hh
                rename_i k q
                obtain ⟨⟨h0, h1⟩, rfl⟩ := hh
                exact .inr ⟨k, by simp only [Option.map_some, hy.isInt]; rw [Int.toNat_of_nonneg h0]⟩
            have hh' : h' ≤ n := by
              cases hi with
              | none => simp only [Option.map_none, Option.some.injEq] at hh; omega
              | some y =>
                simp only [Option.map_some] at hh
                generalize fr.ev y = z at hh
                cases z <;> simp at hh
                omega
            have hlo : lo.map a.eval = none ∧ l = 0 ∨ ∃ k, lo.map a.eval = some (.int k l) := by
              cases lo with
              | none => simp only [Option.map_none, Option.some.injEq] at hl; exact .inl ⟨rfl, by omega⟩
              | some y =>
                have hy := hs.ev y
                simp only [Option.map_some] at hl
                generalize fr.ev y = z at hy hl
                cases z <;> simp at hl
                rename_i k q
                obtain ⟨⟨h0, h1⟩, rfl⟩ := hl
                exact .inr ⟨k, by simp only [Option.map_some, hy.isInt]; rw [Int.toNat_of_nonneg h0]⟩
            have hlh : l ≤ h' := by
              cases lo with
              | none => simp only [Option.map_none, Option.some.injEq] at hl; omega
              | some y =>
                simp only [Option.map_some] at hl
                generalize fr.ev y = z at hl
                cases z <;> simp at hl
                omega
            have hrun := run_cut hs' w A n cap l h' _ _ hlo hhi hlh (by omega)
            refine ⟨.slice (if cap = l then A else A.map (·.add (l * s))) (h' - l) (cap - l), by simp [execOp, ho, hcx, hrun], .lit _ _ (.fz _ _ _ _ sz (fun j k => cvs (l + j) k) (by simp; omega) (fun row hr => hsz row (List.mem_of_mem_take (List.mem_of_mem_drop hr))) (by omega) (by omega) (fun hp => ?_) (fun j k v hj => ?_) (fun j k v hj => ?_))⟩
            · obtain ⟨b, o, rfl, hb, hD, hc⟩ := hcell (by omega)
              have hne : rows ≠ [] := by intro e; subst e; simp at hn; omega
              have hsz0 : sz = s := by
                obtain ⟨r, hr⟩ := List.exists_mem_of_ne_nil rows hne
                have := List.all_eq_true.1 hall r hr
                have h1 := hsz r hr
                simp at this
                omega
              refine ⟨b, o + l * sz, ?_, hb, hD, fun j k v hj => ?_⟩
              · rw [if_neg (by omega)]
                simp [Addr.add_lit, hsz0]
              · have hj' : cell rows (l + j) k = some v := by
                  unfold cell at hj ⊢
                  rw [List.getElem?_drop, List.getElem?_take] at hj
                  split at hj
                  · exact hj
                  · simp at hj
                have := hc _ _ _ hj'
                rw [Nat.add_mul] at this
                rwa [show o + l * sz + (j * sz + k) = o + (l * sz + j * sz + k) by omega]
            · have hj' : cell rows (l + j) k = some v := by
                unfold cell at hj ⊢
                rw [List.getElem?_drop, List.getElem?_take] at hj
                split at hj
                · exact hj
                · simp at hj
              exact hvv _ _ _ hj'
            · have hj' : cell rows (l + j) k = some v := by
                unfold cell at hj ⊢
                rw [List.getElem?_drop, List.getElem?_take] at hj
                split at hj
                · exact hj
                · simp at hj
              exact hone _ _ _ hj'
      · cases hv
    · cases hv
theorem Quiet.not {t : TypeId} {x : Operand} {b : Bool} (ho : o.op = .unOp .not t x) (hv : fr.ev x = .bool b) : Quiet P o fr (.bool !b) :=
  .ofRun fun K a w C F hs => by
    have hx := hs.ev x
    rw [hv] at hx
    exact ⟨.bool !b, by simp [execOp, ho, hx.isBool, Op.unary], .lit _ _ (.bool _)⟩
theorem Quiet.neg {t : TypeId} {x : Operand} {k : IntKind} {n : Int} (ho : o.op = .unOp .neg t x) (hv : fr.ev x = .int k n) : Quiet P o fr (.int k (k.wrap (0 - n))) :=
  .ofRun fun K a w C F hs => by
    have hx := hs.ev x
    rw [hv] at hx
    exact ⟨.int k (k.wrap (0 - n)), by simp [execOp, ho, hx.isInt, Op.unary, Op.intArith], .lit _ _ (.int _ _)⟩
theorem Quiet.eqStr {t t' : TypeId} {x y : Operand} {s s' : ByteArray} (ho : o.op = .binOp .eql t x y t') (hx : fr.ev x = .str s) (hy : fr.ev y = .str s') : Quiet P o fr (.bool (s.toList == s'.toList)) :=
  .ofRun fun K a w C F hs => by
    have h1 := hs.ev x
    have h2 := hs.ev y
    rw [hx] at h1
    rw [hy] at h2
    exact ⟨.bool (s.toList == s'.toList), by simp [execOp, ho, h1.isStr, h2.isStr, eqGuard_at_string, binOp_string_eql], .lit _ _ (.bool _)⟩
theorem Quiet.neStr {t t' : TypeId} {x y : Operand} {s s' : ByteArray} (ho : o.op = .binOp .neq t x y t') (hx : fr.ev x = .str s) (hy : fr.ev y = .str s') : Quiet P o fr (.bool !(s.toList == s'.toList)) :=
  .ofRun fun K a w C F hs => by
    have h1 := hs.ev x
    have h2 := hs.ev y
    rw [hx] at h1
    rw [hy] at h2
    exact ⟨.bool !(s.toList == s'.toList), by simp [execOp, ho, h1.isStr, h2.isStr, eqGuard_at_string, binOp_string_neq], .lit _ _ (.bool _)⟩
theorem Quiet.neBool {t t' : TypeId} {x y : Operand} {s s' : Bool} (ht : P.underlying t = some .bool) (ho : o.op = .binOp .neq t x y t') (hx : fr.ev x = .bool s) (hy : fr.ev y = .bool s') : Quiet P o fr (.bool !(s == s')) :=
  .ofRun fun K a w C F hs => by
    have h1 := hs.ev x
    have h2 := hs.ev y
    rw [hx] at h1
    rw [hy] at h2
    refine ⟨.bool !(s == s'), ?_, .lit _ _ (.bool _)⟩
    have he : (Op.equal t (.bool s) (.bool s')).run P w = .ok (s == s') w := run_equal_bool w t s s' ht
    have hb : binOp .neq t (.bool s) (.bool s') = (do pure (.bool (!(← Op.equal t (.bool s) (.bool s'))))) := rfl
    generalize Op.equal t (.bool s) (.bool s') = q at he hb
    have e : execOp a.eval o = (do pure (.value (← (do eqGuard .neq t x y (a.eval x) (a.eval y); binOp .neq t (a.eval x) (a.eval y))))) := by unfold execOp; rw [ho]
    rw [e, h1.isBool, h2.isBool, eqGuard_at_bool, hb]
    simp only [Sem.run_bind, Sem.run_pure, Result.andThen_ok, he]
theorem Quiet.convInt {src dst : TypeId} {x : Operand} {k k' : IntKind} {n : Int} (ho : o.op = .convert src dst x) (hs : (P.underlying src).isSome) (hk : intk P dst = some k') (hv : fr.ev x = .int k n) : Quiet P o fr (.int k' (k'.wrap n)) :=
  .ofRun fun K a w C F hst => by
    have hx := hst.ev x
    rw [hv] at hx
    have hd' : P.underlying dst = some (.int (P.intKind dst)) ∧ P.intKind dst = k' := by
      unfold intk at hk
      split at hk
      · rename_i q hq
        cases hk
        simp [Program.intKind, hq]
      · cases hk
    refine ⟨.int k' (k'.wrap n), ?_, .lit _ _ (.int _ _)⟩
    simp [execOp, ho, hx.isInt, run_convert_int w src dst k n hs hd'.1, hd'.2]
theorem Quiet.extract {x : Operand} {i : Nat} {vs : List AV} {v : AV} (ho : o.op = .extract x i) (hv : fr.ev x = .tup vs) (hi : vs[i]? = some v) : Quiet P o fr v :=
  .ofRun fun K a w C F hs => by
    have hx := hs.ev x
    rw [hv] at hx
    generalize hcx : a.eval x = cx at hx
    have hp : ∃ cvs : Array Value, cx = .tuple cvs ∧ cvs.size = vs.length ∧ ∀ (k : Nat) (v : AV) (cv : Value), vs[k]? = some v → cvs[k]? = some cv → VR C v cv (fun _ => False) := by
      cases hx with
      | lit v cv h => cases h with
        | tup vs cvs hn hv => exact ⟨cvs, rfl, hn, fun k v cv h1 h2 => .lit _ _ (hv k v cv h1 h2)⟩
      | tup vs cvs Fc F hn hv hF => exact ⟨cvs, rfl, hn, fun k v cv h1 h2 => (hv k v cv h1 h2).noFP fun x hx => ((hF x).2 ⟨k, by rw [h1]; rfl, hx⟩)⟩
    obtain ⟨cvs, rfl, hn, hvs⟩ := hp
    have hlt : i < cvs.size := by rw [hn]; exact (List.getElem?_eq_some_iff.1 hi).1
    obtain ⟨cv, hcv⟩ : ∃ cv, cvs[i]? = some cv := ⟨_, at_getD hlt⟩
    exact ⟨cv, by simp [execOp, ho, hcx, Instr.extract, hcv], hvs i v _ hi hcv⟩
theorem Quiet.nilCheck {x : Operand} (ho : o.op = .nilCheck x) (hv : (∃ p id sz j k, fr.ev x = .adr p id sz j k) ∨ ∃ row k, fr.ev x = .fad row k) : Quiet P o fr (fr.ev x) :=
  .ofRun fun K a w C F hs => by
    have hx := hs.ev x
    have hp : ∃ b, a.eval x = .pointer (some b) := by
      generalize a.eval x = cx at hx
      rcases hv with ⟨p, id, sz, j, k, hv⟩ | ⟨row, k, hv⟩ <;> rw [hv] at hx
      · obtain ⟨b, rfl, _⟩ := hx.adrHdr; exact ⟨_, rfl⟩
      · cases hx with
        | lit v cv h => cases h; exact ⟨_, rfl⟩
    obtain ⟨b, hb⟩ := hp
    rw [hb] at hx
    exact ⟨_, by simp [execOp, ho, hb], hx⟩
theorem Quiet.makeFunc {f : FuncId} {caps : Array Operand} (ho : o.op = .makeFunc (.func f) #[] caps) : Quiet P o fr (if caps.size = 0 then .fn f else .clo f (caps.toList.map fr.ev)) :=
  .ofRun fun K a w C F hs => by
    by_cases h0 : caps.size = 0
    · have : caps = #[] := Array.eq_empty_of_size_eq_zero h0
      subst this
      exact ⟨_, by simp [execOp, ho, Instr.makeFunc], .lit _ _ (.fn f)⟩
    · rw [if_neg h0]
      refine ⟨.func (.func f) #[] (caps.map a.eval), by simp [execOp, ho, Instr.makeFunc], ?_⟩
      refine VR.plainList (mk := .clo f) (cvs := caps.map a.eval) (by simp) (fun k v cv h1 h2 => ?_) (fun Fc F a b c d => .clo f _ _ Fc F a b c d)
      simp only [List.getElem?_map, Array.getElem?_map, Array.getElem?_toList] at h1 h2
      cases hc : caps[k]? with
      | none => simp [hc] at h1
      | some x =>
        simp only [hc, Option.map_some, Option.some.injEq] at h1 h2
        subst h1 h2
        exact hs.ev x
end
end Go.Proofs.Ytgoajlgkbcongaa.Vm
end
section
set_option linter.unusedVariables false
set_option linter.unusedSimpArgs false
namespace Go.Proofs.Ytgoajlgkbcongaa.Vm
open Go Go.RowKit
def AV.leaf : AV → Bool
  | .undef => false
  | .tup _ => false
  | .agg _ => false
  | _ => true
def AV.solid : AV → Bool
  | .undef => false
  | .tup _ => false
  | .agg vs => vs.all AV.leaf
  | _ => true
def AV.cellsL : AV → List AV
  | .agg vs => vs
  | v => [v]
def Cx.new (C : Cx) (w' : World) (b : Nat) (hv : Value) : Cx := ⟨w', fun x => C.D x ∨ x = b, fun id => if id = C.g then hv else C.η id, C.g + 1⟩
section
variable {P : Program} {K : Base} {o : Oper} {fr fr' : Fr}
theorem FZ.one {w : World} {D : FP} {v : AV} {cv : Value} (h : FZ w D v cv) (hl : v.leaf = true) : cv.oneCell' = true := by
  cases h <;> first | rfl | (simp [AV.leaf] at hl)
theorem VR.one {C : Cx} {v : AV} {cv : Value} {F : FP} (h : VR C v cv F) (hl : v.leaf = true) (hη : ∀ p id, v = .bor p id → False) : cv.oneCell' = true := by
  cases h with
  | lit v cv h => exact h.one hl
  | bor p id => exact (hη p id rfl).elim
  | agg => simp [AV.leaf] at hl
  | tup => simp [AV.leaf] at hl
  | _ => rfl
theorem Moved.noBor0 {fr fr1 : Fr} {x v : AV} (hm : fr.mat0 x = some (v, fr1)) : ∀ (p : Pl) (id : Nat), v ≠ AV.bor p id := by
  intro p id e
  subst e
  unfold Fr.mat0 at hm
  split at hm
  · split at hm <;> first | (split at hm <;> cases hm) | cases hm
  · split at hm
    · split at hm <;> cases hm
    · cases hm
  · cases hm
  · cases hm
  · rename_i h1 _ _ _
    cases hm
    exact h1 _ _ rfl
theorem Moved.noBorL : ∀ (xs : List AV) {fr fr1 : Fr} {vs : List AV} (hm : fr.matL xs = some (vs, fr1)), ∀ (k : Nat) (v : AV), vs[k]? = some v → ∀ (p : Pl) (id : Nat), v ≠ AV.bor p id
  | [], fr, fr1, vs, hm, k, v, hk => by
    simp only [Fr.matL, Option.some.injEq, Prod.mk.injEq] at hm
    obtain ⟨rfl, _⟩ := hm
    simp at hk
  | x :: xs, fr, fr1, vs, hm, k, v, hk => by
    simp only [Fr.matL, Option.bind_eq_some_iff] at hm
    obtain ⟨⟨v0, fr2⟩, h1, ⟨ws, fr3⟩, h2, h3⟩ := hm
    simp only [Option.some.injEq, Prod.mk.injEq] at h3
    obtain ⟨rfl, rfl⟩ := h3
    cases k with
    | zero => simp only [List.getElem?_cons_zero, Option.some.injEq] at hk; subst hk; exact Moved.noBor0 h1
    | succ k => exact Moved.noBorL xs h2 k v (by simpa using hk)
theorem Moved.noBor {fr fr1 : Fr} {x v : AV} (hm : fr.mat1 x = some (v, fr1)) : ∀ (k : Nat) (u : AV), v.cellsL[k]? = some u → ∀ (p : Pl) (id : Nat), u ≠ AV.bor p id := by
  by_cases hag : ∃ xs, x = .agg xs
  · obtain ⟨xs, rfl⟩ := hag
    simp only [Fr.mat1, Option.bind_eq_some_iff] at hm
    obtain ⟨⟨vs, fr2⟩, h1, h3⟩ := hm
    simp only [Option.some.injEq, Prod.mk.injEq] at h3
    obtain ⟨rfl, rfl⟩ := h3
    exact fun k u hu => Moved.noBorL xs h1 k u hu
  · have hm' : fr.mat0 x = some (v, fr1) := by cases x <;> first | exact hm | exact absurd ⟨_, rfl⟩ hag
    have hv : v.cellsL = [v] ∨ ∃ vs, v = .agg vs := by cases v <;> simp [AV.cellsL]
    rcases hv with hv | ⟨vs, rfl⟩
    · rw [hv]
      intro k u hu
      cases k with
      | zero => simp only [List.getElem?_cons_zero, Option.some.injEq] at hu; subst hu; exact Moved.noBor0 hm'
      | succ k => simp at hu
    · exfalso
      unfold Fr.mat0 at hm'
      split at hm'
      · split at hm' <;> first | (split at hm' <;> cases hm') | cases hm'
      · split at hm'
        · split at hm' <;> cases hm'
        · cases hm'
      · cases hm'
      · cases hm'
      · rename_i h3 _
        cases hm'
        exact h3 _ rfl
/-- A value's cells. -/
theorem VR.cells {C : Cx} {v : AV} {cv : Value} {F : FP} (h : VR C v cv F) (hs : v.solid = true) (hb : ∀ (k : Nat) (u : AV), v.cellsL[k]? = some u → ∀ (p : Pl) (id : Nat), u ≠ AV.bor p id) :
    ∃ Fc : Nat → FP, cv.cells.size = v.cellsL.length ∧ (∀ (k : Nat) (u : AV) (cu : Value), v.cellsL[k]? = some u → cv.cells[k]? = some cu → VR C u cu (Fc k)) ∧ (∀ x, F x ↔ ∃ k, (v.cellsL[k]?).isSome ∧ Fc k x) ∧
      (∀ k k' x, (v.cellsL[k]?).isSome → (v.cellsL[k']?).isSome → Fc k x → Fc k' x → k = k') ∧ ∀ (i : Nat) (u : Value), cv.cells[i]? = some u → u.oneCell' = true := by
  by_cases hag : ∃ vs, v = .agg vs
  · obtain ⟨vs, rfl⟩ := hag
    have hp : ∃ (cvs : Array Value) (Fc : Nat → FP), cv = .agg cvs ∧ cvs.size = vs.length ∧ (∀ (k : Nat) (u : AV) (cu : Value), vs[k]? = some u → cvs[k]? = some cu → VR C u cu (Fc k)) ∧ (∀ x, F x ↔ ∃ k, (vs[k]?).isSome ∧ Fc k x) ∧
        (∀ k k' x, (vs[k]?).isSome → (vs[k']?).isSome → Fc k x → Fc k' x → k = k') := by
      cases h with
      | lit v cv h => cases h with
        | agg vs cvs hn hv => exact ⟨cvs, fun _ _ => False, rfl, hn, fun k u cu h1 h2 => .lit _ _ (hv k u cu h1 h2), fun x => ⟨fun h => h.elim, fun ⟨_, _, h⟩ => h⟩, fun _ _ _ _ _ h => h.elim⟩
      | agg vs cvs Fc F hn hv hF hdis => exact ⟨cvs, Fc, rfl, hn, hv, hF, hdis⟩
    obtain ⟨cvs, Fc, rfl, hn, hv, hF, hdis⟩ := hp
    refine ⟨Fc, hn, hv, hF, hdis, fun i u hi => ?_⟩
    have hlt : i < vs.length := by rw [← hn]; exact (Array.getElem?_eq_some_iff.1 hi).1
    have hu : vs[i]? = some vs[i] := List.getElem?_eq_getElem hlt
    exact (hv i _ u hu hi).one (List.all_eq_true.1 hs _ (List.getElem_mem hlt)) (fun p id e => hb i _ hu p id e)
  · have hc : v.cellsL = [v] := by cases v <;> first | rfl | exact absurd ⟨_, rfl⟩ hag
    have hl : v.leaf = true := by cases v <;> first | rfl | exact absurd ⟨_, rfl⟩ hag | simp [AV.solid] at hs
    have h1 := h.one hl (fun p id e => hb 0 v (by rw [hc]; rfl) p id e)
    have hcc : cv.cells = #[cv] := by cases cv <;> first | rfl | simp [Value.oneCell'] at h1
    rw [hc, hcc]
    refine ⟨fun _ => F, rfl, fun k u cu h1 h2 => ?_, fun x => ⟨fun h => ⟨0, rfl, h⟩, fun ⟨_, _, h⟩ => h⟩, fun k k' x h1 h2 _ _ => ?_, fun i u hi => ?_⟩
    · cases k with
      | zero => simp at h1 h2; subst h1 h2; exact h
      | succ k => simp at h1
    · cases k with
      | zero => cases k' with
        | zero => rfl
        | succ k' => simp at h2
      | succ k => simp at h1
    · cases i with
      | zero => simp at hi; subst hi; assumption
      | succ i => simp at hi
/-- One step: what was moved out, what the world has become, what is laid into the slot. -/
theorem StC.step {a : Act} {w w' : World} {C C' : Cx} {F F1 : Nat → FP} {Fv Fv' : FP} {fr1 fr2 : Fr} {v : AV} {cv : Value} {d : Option Tmp} (hs : StC K fr a w C F) (hm : Moved C fr fr1 (fun t => a.tmps.getD t Go.undef) F F1 Fv)
    (hw' : C'.w = w') (hc : Compat C C' (fun x => ∃ t, F1 t x)) (hD : ∀ x, C.D x → ¬ Fv x → C'.D x) (hv : VR C' v cv Fv') (hsub : ∀ x, Fv' x → C'.D x) (hnewv : ∀ x, Fv' x → Fv x ∨ w.heap.size ≤ x) (hlt : ∀ x, C'.D x → x < w'.heap.size)
    (hf : Fram w Fv w') (h2s : fr2.s = fr1.s) (h2n : fr2.n = fr1.n) (h2g : fr2.g = C'.g) (hd : fr2.dst d v = some fr') : St K fr' (a.put d cv) w' := by
  have hsz : ∀ t x, F1 t x → x < w.heap.size := fun t x hx => hs.lt x (hs.rel.sub t x (hm.sub t x hx))
  refine StC.put (F' := F1) ⟨Nat.le_trans hs.eta.1 hc.g, fun id hid => (hc.η id (Nat.lt_of_lt_of_le hid hs.eta.1)).trans (hs.eta.2 id hid)⟩ hw' h2g.symm ⟨fun t => ?_, hm.rel.dis, fun t x hx => ?_⟩ hv (fun t x h1 h2 => ?_) hsub hlt (fun t x hx => hs.new t x (hm.sub t x hx)) (fun x hx => ?_) (fun x hx => ⟨?_, fun t h1 => (hs.avoid x hx).2 t (hm.sub t x h1), fun h1 => ?_⟩) ?_ hs.defers
    (by rw [h2n, hm.n]; exact hs.size) hd
  · rw [h2s]; exact (hm.rel.vr t).mono (hc.mono fun x hx => ⟨t, hx⟩)
  · exact hD x (hm.rel.sub t x hx) (fun h => hm.dis t x hx h)
  · rcases hnewv x h2 with h | h
    · exact hm.dis t x h1 h
    · have := hsz t x h1; omega
  · rcases hnewv x hx with h | h
    · obtain ⟨t, ht⟩ := hm.own x h; exact hs.new t x ht
    · exact .inr (Nat.le_trans hs.fram.size h)
  · exact hD x (hs.avoid x hx).1 (fun h => let ⟨t, ht⟩ := hm.own x h; (hs.avoid x hx).2 t ht)
  · rcases hnewv x h1 with h | h
    · obtain ⟨t, ht⟩ := hm.own x h; exact (hs.avoid x hx).2 t ht
    · have := hs.lt x (hs.avoid x hx).1; omega
  · refine ⟨hf.os.trans hs.fram.os, hf.tape.trans hs.fram.tape, hf.output.trans hs.fram.output, Nat.le_trans hs.fram.size hf.size, fun x hx hD0 => ?_⟩
    rw [hf.block x (Nat.lt_of_lt_of_le hx hs.fram.size) (fun h => ?_), hs.fram.block x hx hD0]
    obtain ⟨t, ht⟩ := hm.own x h
    rcases hs.new t x ht with h | h
    · exact hD0 h
    · omega
theorem heap_alloc_at (w : World) (ob : Obj) : (w.alloc ob).heap[w.heap.size]? = some ob := by
  show (w.heap.push ob)[w.heap.size]? = _
  simp
theorem alloc_size (w : World) (ob : Obj) : (w.alloc ob).heap.size = w.heap.size + 1 := by
  show (w.heap.push ob).size = _
  simp
theorem fram_alloc (w : World) (D : FP) (ob : Obj) : Fram w D (w.alloc ob) := ⟨rfl, rfl, rfl, by rw [alloc_size]; omega, fun x hx _ => Below.heap_alloc w ob x hx⟩
/-- A world with a new block. -/
structure NewBlock (w w' : World) (ob : Obj) : Prop where
  at_ : w'.heap[w.heap.size]? = some ob
  size : w'.heap.size = w.heap.size + 1
  fram : ∀ D, Fram w D w'
theorem NewBlock.alloc (w : World) (ob : Obj) : NewBlock w (w.alloc ob) ob := ⟨heap_alloc_at w ob, alloc_size w ob, fun D => fram_alloc w D ob⟩
theorem NewBlock.drewAlloc (w : World) (ob : Obj) : NewBlock w (w.drew.alloc ob) ob := ⟨heap_alloc_at w.drew ob, alloc_size w.drew ob, fun D => ⟨rfl, rfl, rfl, by rw [alloc_size]; exact Nat.le_succ _, fun x hx _ => Below.heap_alloc w.drew ob x hx⟩⟩
theorem NewBlock.compat {C : Cx} {w' : World} {ob : Obj} {hv : Value} (h : NewBlock C.w w' ob) (hD : ∀ x, C.D x → x < C.w.heap.size) {F : FP} (hF : ∀ x, F x → x < C.w.heap.size) : Compat C (C.new w' C.w.heap.size hv) F :=
  ⟨Nat.le_succ _, fun id hid => by simp only [Cx.new]; rw [if_neg (by omega)], fun x hx => (h.fram (fun _ => False)).block x (hF x hx) (fun h => h), fun x hx hn => ⟨(h.fram (fun _ => False)).block x hx (fun h => h), fun h' => h'.elim hn (fun e => by omega)⟩⟩
/-- A new block that is laid into a slot. -/
theorem StC.alloc {a : Act} {w w' : World} {C : Cx} {F F1 : Nat → FP} {Fv : FP} {fr1 : Fr} {v : AV} {cv hv : Value} {d : Option Tmp} {ob : Obj} (hs : StC K fr a w C F) (hm : Moved C fr fr1 (fun t => a.tmps.getD t Go.undef) F F1 Fv)
    (hn : NewBlock w w' ob) (hvr : VR (C.new w' w.heap.size hv) v cv (fun x => x = w.heap.size ∨ Fv x)) (hd : (fr1.fresh 1).dst d v = some fr') : St K fr' (a.put d cv) w' := by
  have hlt := hs.lt
  have hw := hs.hw
  subst hw
  have hFv : ∀ x, Fv x → C.D x := fun x hx => let ⟨t, ht⟩ := hm.own x hx; hs.rel.sub t x ht
  refine hs.step (fr2 := fr1.fresh 1) (C' := C.new w' C.w.heap.size hv) hm rfl (hn.compat hlt fun x ⟨t, hx⟩ => hlt x (hs.rel.sub t x (hm.sub t x hx))) (fun x hx _ => .inl hx) hvr (fun x hx => hx.elim .inr (fun h => .inl (hFv x h))) (fun x hx => hx.elim (fun e => .inr (by omega)) .inl) (fun x hx => ?_) (hn.fram _) rfl rfl ?_ hd
  · show x < w'.heap.size
    rw [hn.size]
    rcases hx with h | h
    · have := hlt x h; omega
    · omega
  · show fr1.g + 1 = C.g + 1
    rw [hm.g, hs.hg]
/-- Cells in a new block: a variable. -/
theorem VR.newBox {C : Cx} {w' : World} {cells : List AV} {cur : Array Value} {e : Nat} {Fc : Nat → FP} {Fv : FP} (hn : NewBlock C.w w' (.cells cur e)) (hlt : ∀ x, C.D x → x < C.w.heap.size) (hsz : cur.size = cells.length)
    (hv : ∀ (k : Nat) (u : AV) (cu : Value), cells[k]? = some u → cur[k]? = some cu → VR C u cu (Fc k)) (hF : ∀ x, Fv x ↔ ∃ k, (cells[k]?).isSome ∧ Fc k x) (hdis : ∀ k k' x, (cells[k]?).isSome → (cells[k']?).isSome → Fc k x → Fc k' x → k = k')
    (hone : ∀ (i : Nat) (u : Value), cur[i]? = some u → u.oneCell' = true) (hFv : ∀ x, Fv x → C.D x) :
    VR (C.new w' C.w.heap.size (.pointer (some ⟨C.w.heap.size, 0, none⟩))) (.box C.g cells) (.pointer (some ⟨C.w.heap.size, 0, none⟩)) (fun x => x = C.w.heap.size ∨ Fv x) := by
  have hk : ∀ k v, cells[k]? = some v → cur[k]? = some (cur.getD k Go.undef) := fun k v h => at_getD (by rw [hsz]; exact (List.getElem?_eq_some_iff.1 h).1)
  refine .box C.g cells C.w.heap.size e cur (fun k => cur.getD k Go.undef) Fc _ (Nat.lt_succ_self _) (by simp [Cx.new]) hn.at_ hsz hone hk (fun k v h => ?_) (fun x => by rw [hF x]) hdis (fun k hs hx => ?_)
  · exact (hv k v _ h (hk k v h)).mono (hn.compat hlt fun x hx => hlt x (hFv x ((hF x).2 ⟨k, by rw [h]; rfl, hx⟩)))
  · have := hlt _ (hFv _ ((hF _).2 ⟨k, hs, hx⟩)); omega
/-- Cells in a new block: a slice. -/
theorem VR.newOwn {C : Cx} {w' : World} {rows : List (List AV)} {cur : Array Value} {e sz n cap : Nat} {Fc : Nat → Nat → FP} {Fv : FP} (hn : NewBlock C.w w' (.cells cur e)) (hlt : ∀ x, C.D x → x < C.w.heap.size) (hl : rows.length = n) (hr : ∀ row ∈ rows, row.length = sz)
    (hcap : n ≤ cap) (hmax : cap ≤ 9223372036854775807) (hsz : cur.size = cap * sz)
    (hv : ∀ (j k : Nat) (u : AV), cell rows j k = some u → ∃ cu, cur[j * sz + k]? = some cu ∧ VR C u cu (Fc j k)) (hF : ∀ x, Fv x ↔ ∃ j k, (cell rows j k).isSome ∧ Fc j k x)
    (hdis : ∀ j k j' k' x, (cell rows j k).isSome → (cell rows j' k').isSome → Fc j k x → Fc j' k' x → j = j' ∧ k = k')
    (hone : ∀ (i : Nat) (u : Value), cur[i]? = some u → u.oneCell' = true) (hFv : ∀ x, Fv x → C.D x) :
    VR (C.new w' C.w.heap.size (.slice (some ⟨C.w.heap.size, 0, none⟩) n cap)) (.own C.g sz rows) (.slice (some ⟨C.w.heap.size, 0, none⟩) n cap) (fun x => x = C.w.heap.size ∨ Fv x) := by
  refine .own C.g sz rows C.w.heap.size n cap e cur (fun j k => cur.getD (j * sz + k) Go.undef) Fc _ (Nat.lt_succ_self _) (by simp [Cx.new]) hl hr hcap hmax hn.at_ hsz hone (fun j k u h => ?_) (fun j k u h => ?_) (fun x => by rw [hF x]) hdis (fun j k hs hx => ?_)
  · obtain ⟨cu, hc, _⟩ := hv j k u h
    rw [hc, getD_at hc]
  · obtain ⟨cu, hc, hvr⟩ := hv j k u h
    rw [getD_at hc]
    exact hvr.mono (hn.compat hlt fun x hx => hlt x (hFv x ((hF x).2 ⟨j, k, by rw [h]; rfl, hx⟩)))
  · have := hlt _ (hFv _ ((hF _).2 ⟨j, k, hs, hx⟩)); omega
theorem OpS.box {t : TypeId} {x : Operand} {fr1 : Fr} {v : AV} (ho : o.op = .box t x) (hm : fr.mat1 (fr.ev x) = some (v, fr1)) (hs : v.solid = true) (hd : (fr1.fresh 1).dst o.dst (.box fr1.g v.cellsL) = some fr') : OpS P K o fr fr' := by
  rintro a w ⟨C, F, hst⟩ next Q hn
  obtain ⟨F', Fv, hv, hmv⟩ := hst.rel.mat1 (hst.ev x) hm
  obtain ⟨Fc, h1, h2, h3, h4, h5⟩ := hv.cells hs (Moved.noBor hm)
  have hw := hst.hw
  subst hw
  have hnb := NewBlock.alloc C.w (.cells (a.eval x).cells t)
  refine wp_value (cv := .pointer (some ⟨C.w.heap.size, 0, none⟩)) (w' := C.w.alloc (.cells (a.eval x).cells t)) (by simp [execOp, ho, Instr.box, newVar, newRow]) (hn _ _ (hst.alloc (hv := .pointer (some ⟨C.w.heap.size, 0, none⟩)) hmv hnb ?_ hd))
  have hg : fr1.g = C.g := hmv.g.trans hst.hg.symm
  rw [hg]
  exact VR.newBox hnb hst.lt h1 h2 h3 h4 h5 (fun x hx => let ⟨t, ht⟩ := hmv.own x hx; hst.rel.sub t x ht)
/-- A type's zero value, cell by cell. -/
def zer (P : Program) (t : TypeId) : Option (List AV) := (P.info? t).bind fun i => i.zero.map fun z => z.cells.toList.map ofConst
def oneCells (P : Program) (t : TypeId) : Bool := ((P.info? t).bind (·.zero)).any fun z => z.cells.toList.all (·.oneCell')
theorem OpS.alloc {t : TypeId} {zs : List AV} (ho : o.op = .alloc t) (hz : zer P t = some zs) (h1 : oneCells P t = true) (hd : (fr.fresh 1).dst o.dst (.box fr.g zs) = some fr') : OpS P K o fr fr' := by
  rintro a w ⟨C, F, hst⟩ next Q hn
  obtain ⟨i, hi, hz⟩ := Option.bind_eq_some_iff.1 hz
  obtain ⟨z, hz0, rfl⟩ := Option.map_eq_some_iff.1 hz
  have hw := hst.hw
  subst hw
  have hnb := NewBlock.alloc C.w (.cells z.cells t)
  have hone : ∀ (i : Nat) (u : Value), z.cells[i]? = some u → u.oneCell' = true := by
    intro k u hu
    simp only [oneCells, hi, hz0, Option.bind_some, Option.any_some] at h1
    exact List.all_eq_true.1 h1 u (by obtain ⟨hlt, rfl⟩ := Array.getElem?_eq_some_iff.1 hu; exact Array.getElem_mem_toList hlt)
  refine wp_value (cv := .pointer (some ⟨C.w.heap.size, 0, none⟩)) (w' := C.w.alloc (.cells z.cells t)) (by simp [execOp, ho, Instr.alloc, newVar, newRow, zeroValue, typeInfo, hi, hz0]) (hn _ _ (hst.alloc (hv := .pointer (some ⟨C.w.heap.size, 0, none⟩)) (.same hst.rel) hnb ?_ hd))
  rw [← hst.hg]
  refine (VR.newBox (Fc := fun _ _ => False) (Fv := fun _ => False) hnb hst.lt (by simp) (fun k u cu h1 h2 => ?_) (fun x => ⟨fun h => h.elim, fun ⟨_, _, h⟩ => h⟩) (fun _ _ _ _ _ h => h.elim) hone (fun x h => h.elim))
  simp only [List.getElem?_map, Array.getElem?_toList, h2, Option.map_some, Option.some.injEq] at h1
  subst h1
  exact .lit _ _ (.ofConst _ _ _)
end
end Go.Proofs.Ytgoajlgkbcongaa.Vm
end
section
set_option linter.unusedVariables false
set_option linter.unusedSimpArgs false
namespace Go.Proofs.Ytgoajlgkbcongaa.Vm
open Go Go.RowKit
def setN : List AV → Nat → List AV → List AV
  | row, _, [] => row
  | row, k, v :: vs => setN (row.set k v) (k + 1) vs
theorem setN_length : ∀ (vs : List AV) (row : List AV) (k : Nat), (setN row k vs).length = row.length
  | [], row, k => rfl
  | v :: vs, row, k => by rw [setN, setN_length vs]; simp
theorem setN_at : ∀ (vs : List AV) (row : List AV) (k i : Nat), k + vs.length ≤ row.length → (setN row k vs)[i]? = if k ≤ i ∧ i < k + vs.length then vs[i - k]? else row[i]?
  | [], row, k, i, h => by simp [setN]; intro h1 h2; omega
  | v :: vs, row, k, i, h => by
    simp only [List.length_cons] at h
    rw [setN, setN_at vs (row.set k v) (k + 1) i (by simp; omega)]
    by_cases h1 : k + 1 ≤ i ∧ i < k + 1 + vs.length
    · rw [if_pos h1, if_pos (by simp; omega), show i - k = (i - (k + 1)) + 1 by omega, List.getElem?_cons_succ]
    · rw [if_neg h1, List.getElem?_set]
      by_cases h2 : k = i
      · subst h2
        rw [if_pos rfl, if_pos (by omega), if_pos (by simp)]
        simp
      · rw [if_neg h2, if_neg (by simp; omega)]
/-- Parts laid into cells. -/
def afill (place : Nat → Option (Nat × Nat)) : List AV → List (Nat × AV) → Option (List AV)
  | cells, [] => some cells
  | cells, (i, v) :: rest => match place i with
    | none => none
    | some (off, size) => if v.cellsL.length = size ∧ off + v.cellsL.length ≤ cells.length then afill place (setN cells off v.cellsL) rest else none
theorem foldl_set : ∀ (l : List Value) (cells : Array Value) (off j0 : Nat), (l.zipIdx j0).foldl (fun cs (p : Value × Nat) => cs.setIfInBounds (off + p.2) p.1) cells = (l.zipIdx j0).foldl (fun cs (p : Value × Nat) => cs.setIfInBounds (off + p.2) p.1) cells := fun _ _ _ _ => rfl
theorem fold_size : ∀ (l : List Value) (cells : Array Value) (off j0 : Nat), ((l.zipIdx j0).foldl (fun cs (p : Value × Nat) => cs.setIfInBounds (off + p.2) p.1) cells).size = cells.size
  | [], cells, off, j0 => rfl
  | v :: l, cells, off, j0 => by simp only [List.zipIdx_cons, List.foldl_cons]; rw [fold_size l]; simp
theorem fold_at : ∀ (l : List Value) (cells : Array Value) (off j0 i : Nat), off + j0 + l.length ≤ cells.size →
    ((l.zipIdx j0).foldl (fun cs (p : Value × Nat) => cs.setIfInBounds (off + p.2) p.1) cells)[i]? = if off + j0 ≤ i ∧ i < off + j0 + l.length then l[i - (off + j0)]? else cells[i]?
  | [], cells, off, j0, i, h => by simp; intro h1 h2; omega
  | v :: l, cells, off, j0, i, h => by
    simp only [List.length_cons] at h
    simp only [List.zipIdx_cons, List.foldl_cons]
    rw [fold_at l (cells.setIfInBounds (off + j0) v) off (j0 + 1) i (by simp; omega)]
    by_cases h1 : off + (j0 + 1) ≤ i ∧ i < off + (j0 + 1) + l.length
    · rw [if_pos h1, if_pos (by simp; omega), show i - (off + j0) = (i - (off + (j0 + 1))) + 1 by omega, List.getElem?_cons_succ]
    · rw [if_neg h1, Array.getElem?_setIfInBounds]
      by_cases h2 : off + j0 = i
      · subst h2
        rw [if_pos rfl, if_pos (by omega), if_pos (by simp)]
        simp
      · rw [if_neg h2, if_neg (by simp; omega)]
section
variable {P : Program} {K : Base} {o : Oper} {fr fr' : Fr}
/-- Cells and what they say. -/
structure CellsR (C : Cx) (cells : List AV) (cur : Array Value) (Fc : Nat → FP) : Prop where
  size : cur.size = cells.length
  vr : ∀ (k : Nat) (u : AV) (cu : Value), cells[k]? = some u → cur[k]? = some cu → VR C u cu (Fc k)
  one : ∀ (i : Nat) (u : Value), cur[i]? = some u → u.oneCell' = true
  inr : ∀ k x, Fc k x → k < cells.length
  dis : ∀ k k' x, Fc k x → Fc k' x → k = k'
/-- Values on their way: each with its footprint, all disjoint. -/
structure Pend (C : Cx) (vs : List AV) (cx : Nat → Value) (Fp : Nat → FP) : Prop where
  vr : ∀ k v, vs[k]? = some v → VR C v (cx k) (Fp k)
  dis : ∀ k k' x, (vs[k]?).isSome → (vs[k']?).isSome → Fp k x → Fp k' x → k = k'
  solid : ∀ (k : Nat) (v : AV), vs[k]? = some v → v.solid = true
  noBor : ∀ (k : Nat) (v : AV), vs[k]? = some v → ∀ (i : Nat) (u : AV), v.cellsL[i]? = some u → ∀ (p : Pl) (id : Nat), u ≠ AV.bor p id
theorem fill_sound {C : Cx} (place : Nat → Option (Nat × Nat)) : ∀ (ps : List Nat) (vs : List AV) (cx : Nat → Value) (Fp : Nat → FP) (cells out : List AV) (cur : Array Value) (Fc : Nat → FP), ps.length = vs.length → Pend C vs cx Fp → CellsR C cells cur Fc →
    (∀ k k' x, (vs[k]?).isSome → Fp k x → ¬ Fc k' x) → afill place cells (ps.zip vs) = some out →
    ∃ cur' Fc', Instr.fill place cur (ps.zip ((List.range vs.length).map cx)) = some cur' ∧ CellsR C out cur' Fc' ∧ (∀ k x, Fc' k x → (∃ k', Fc k' x) ∨ ∃ k', (vs[k']?).isSome ∧ Fp k' x)
  | [], vs, cx, Fp, cells, out, cur, Fc, hl, hp, hc, hd, h => by
    have : vs = [] := List.eq_nil_of_length_eq_zero hl.symm
    subst this
    simp only [List.zip_nil_left, afill, Option.some.injEq] at h
    subst h
    exact ⟨cur, Fc, rfl, hc, fun k x hx => .inl ⟨k, hx⟩⟩
  | i :: ps, [], cx, Fp, cells, out, cur, Fc, hl, hp, hc, hd, h => by simp at hl
  | i :: ps, v :: vs, cx, Fp, cells, out, cur, Fc, hl, hp, hc, hd, h => by
    simp only [List.zip_cons_cons, afill] at h
    cases hpl : place i with
    | none => simp [hpl] at h
    | some q =>
      obtain ⟨off, size⟩ := q
      simp only [hpl] at h
      split at h
      · rename_i hsz
        obtain ⟨hsz, hle⟩ := hsz
        obtain ⟨Fv, v1, v2, v3, v4, v5⟩ := (hp.vr 0 v rfl).cells (hp.solid 0 v rfl) (hp.noBor 0 v rfl)
        have hcs : cur.size = cells.length := hc.size
        let cur1 := ((cx 0).cells.toList.zipIdx 0).foldl (fun cs (p : Value × Nat) => cs.setIfInBounds (off + p.2) p.1) cur
        have hat : ∀ j, cur1[j]? = if off ≤ j ∧ j < off + v.cellsL.length then (cx 0).cells[j - off]? else cur[j]? := by
          intro j
          have := fold_at (cx 0).cells.toList cur off 0 j (by simp; omega)
          simp only [Nat.add_zero, Array.length_toList, v1, Array.getElem?_toList] at this
          exact this
        have hcr : CellsR C (setN cells off v.cellsL) cur1 (fun k x => if off ≤ k ∧ k < off + v.cellsL.length then Fv (k - off) x ∧ (v.cellsL[k - off]?).isSome else Fc k x) := by
          refine ⟨by rw [setN_length, fold_size]; exact hcs, fun k u cu h1 h2 => ?_, fun j u hj => ?_, fun k x hx => ?_, fun k k' x h1 h2 => ?_⟩
          · rw [setN_at _ _ _ _ hle] at h1
            rw [hat] at h2
            by_cases e : off ≤ k ∧ k < off + v.cellsL.length
            · simp only [if_pos e] at h1 h2 ⊢
              exact (v2 _ u cu h1 h2).fp fun x => ⟨fun h => h.1, fun h => ⟨h, by rw [h1]; rfl⟩⟩
            · simp only [if_neg e] at h1 h2 ⊢
              exact hc.vr k u cu h1 h2
          · rw [hat] at hj
            split at hj
            · exact v5 _ u hj
            · exact hc.one _ u hj
          · rw [setN_length]
            by_cases e : off ≤ k ∧ k < off + v.cellsL.length
            · omega
            · simp only [if_neg e] at hx; exact hc.inr k x hx
          · have hv0 : ∀ k, Fv (k - off) x ∧ (v.cellsL[k - off]?).isSome → Fp 0 x := fun k h => (v3 x).2 ⟨_, h.2, h.1⟩
            by_cases e : off ≤ k ∧ k < off + v.cellsL.length <;> by_cases e' : off ≤ k' ∧ k' < off + v.cellsL.length
            · simp only [if_pos e, if_pos e'] at h1 h2
              have := v4 _ _ x h1.2 h2.2 h1.1 h2.1
              omega
            · simp only [if_pos e, if_neg e'] at h1 h2
              exact absurd h2 (hd 0 k' x rfl (hv0 k h1))
            · simp only [if_neg e, if_pos e'] at h1 h2
              exact absurd h1 (hd 0 k x rfl (hv0 k' h2))
            · simp only [if_neg e, if_neg e'] at h1 h2; exact hc.dis k k' x h1 h2
        have hpn : Pend C vs (fun k => cx (k + 1)) (fun k => Fp (k + 1)) :=
          ⟨fun k w hk => hp.vr (k + 1) w (by simpa using hk), fun k k' x h1 h2 h3 h4 => by have := hp.dis (k + 1) (k' + 1) x (by simpa using h1) (by simpa using h2) h3 h4; omega, fun k w hk => hp.solid (k + 1) w (by simpa using hk), fun k w hk => hp.noBor (k + 1) w (by simpa using hk)⟩
        obtain ⟨cur', Fc', hf, hcr', hsub⟩ := fill_sound place ps vs (fun k => cx (k + 1)) (fun k => Fp (k + 1)) _ out cur1 _ (by simpa using hl) hpn hcr (fun k k' x hk h1 h2 => by
          by_cases e : off ≤ k' ∧ k' < off + v.cellsL.length
          · simp only [if_pos e] at h2
            have := hp.dis (k + 1) 0 x (by simpa using hk) rfl h1 ((v3 x).2 ⟨_, h2.2, h2.1⟩)
            omega
          · simp only [if_neg e] at h2
            exact hd (k + 1) k' x (by simpa using hk) h1 h2) h
        refine ⟨cur', Fc', ?_, hcr', fun k x hx => ?_⟩
        · simp only [List.length_cons, List.range_succ_eq_map, List.map_cons, List.map_map, List.zip_cons_cons, Instr.fill, hpl]
          rw [if_neg (by simp [v1]; omega)]
          have e1 : (cx 0).cells.zipIdx.foldl (fun cs (x : Value × Nat) => cs.setIfInBounds (off + x.2) x.1) cur = cur1 := by
            show _ = List.foldl _ _ _
            rw [← Array.foldl_toList, Array.toList_zipIdx]
          rw [e1]
          exact hf
        · rcases hsub k x hx with ⟨k', h1⟩ | ⟨k', h1, h2⟩
          · by_cases e : off ≤ k' ∧ k' < off + v.cellsL.length
            · simp only [if_pos e] at h1
              exact .inr ⟨0, rfl, (v3 x).2 ⟨_, h1.2, h1.1⟩⟩
            · simp only [if_neg e] at h1
              exact .inl ⟨k', h1⟩
          · exact .inr ⟨k' + 1, by simpa using h1, h2⟩
      · cases h
end
end Go.Proofs.Ytgoajlgkbcongaa.Vm
end
section
set_option linter.unusedVariables false
set_option linter.unusedSimpArgs false
namespace Go.Proofs.Ytgoajlgkbcongaa.Vm
open Go Go.RowKit
def Fr.matA : Fr → List AV → Option (List AV × Fr)
  | fr, [] => some ([], fr)
  | fr, x :: xs => (fr.mat1 x).bind fun r => if r.1.solid then (r.2.matA xs).bind fun q => some (r.1 :: q.1, q.2) else none
def bplc (P : Program) (t : TypeId) : Option (List (Nat × Nat)) :=
  match P.underlying t with
  | some (.struct fields) => fields.toList.mapM (fun f => (P.info? f.type).map fun i => (f.offset, i.size))
  | _ => none
section
variable {P : Program} {K : Base} {o : Oper} {fr fr' : Fr}
theorem Rel.matA {C : Cx} : ∀ (xs : List AV) {fr fr' : Fr} {tm : Nat → Value} {F : Nat → FP} {vs : List AV} {cx : Nat → Value} (h : Rel C fr tm F) (hx : ∀ (k : Nat) (x : AV), xs[k]? = some x → VR C x (cx k) (fun _ => False)) (hm : fr.matA xs = some (vs, fr')),
    ∃ (F' : Nat → FP) (Fc : Nat → FP) (Fv : FP), vs.length = xs.length ∧ Pend C vs cx Fc ∧ (∀ x, Fv x ↔ ∃ k, (vs[k]?).isSome ∧ Fc k x) ∧ Moved C fr fr' tm F F' Fv
  | [], fr, fr', tm, F, vs, cx, h, hx, hm => by
    simp only [Fr.matA, Option.some.injEq, Prod.mk.injEq] at hm
    obtain ⟨rfl, rfl⟩ := hm
    exact ⟨F, fun _ _ => False, _, rfl, ⟨fun k v h => by simp at h, fun _ _ _ _ _ h => h.elim, fun k v h => by simp at h, fun k v h => by simp at h⟩, fun x => ⟨fun h => h.elim, fun ⟨_, _, h⟩ => h⟩, .same h⟩
  | x :: xs, fr, fr', tm, F, vs, cx, h, hx, hm => by
    simp only [Fr.matA, Option.bind_eq_some_iff] at hm
    obtain ⟨⟨v, fr1⟩, h1, h20⟩ := hm
    split at h20
    · rename_i hsol
      obtain ⟨⟨ws, fr2⟩, h2, h3⟩ := Option.bind_eq_some_iff.1 h20
      simp only [Option.some.injEq, Prod.mk.injEq] at h3
      obtain ⟨rfl, rfl⟩ := h3
      obtain ⟨F1, Fa, hv, hmv⟩ := h.mat1 (hx 0 x rfl) h1
      obtain ⟨F2, Fc, Fb, hl, hp, hF, hmv2⟩ := Rel.matA xs (cx := fun k => cx (k + 1)) hmv.rel (fun k x hk => hx (k + 1) x (by simpa using hk)) h2
      have hab : ∀ x, Fa x → ¬ Fb x := fun x ha hb => let ⟨t, ht⟩ := hmv2.own x hb; hmv.dis t x ht ha
      refine ⟨F2, fun k => match k with | 0 => Fa | k + 1 => Fc k, _, by simp [hl], ⟨fun k v hk => ?_, fun k k' x h1 h2 h3 h4 => ?_, fun k v hk => ?_, fun k v hk => ?_⟩, fun x => ?_, hmv.trans hmv2⟩
      · cases k with
        | zero => simp only [List.getElem?_cons_zero, Option.some.injEq] at hk; subst hk; exact hv
        | succ k => simp only [List.getElem?_cons_succ] at hk; exact hp.vr k v hk
      · cases k with
        | zero => cases k' with
          | zero => rfl
          | succ k' => exact absurd ((hF x).2 ⟨k', by simpa using h2, h4⟩) (hab x h3)
        | succ k => cases k' with
          | zero => exact absurd ((hF x).2 ⟨k, by simpa using h1, h3⟩) (hab x h4)
          | succ k' => rw [hp.dis k k' x (by simpa using h1) (by simpa using h2) h3 h4]
      · cases k with
        | zero => simp only [List.getElem?_cons_zero, Option.some.injEq] at hk; subst hk; exact hsol
        | succ k => simp only [List.getElem?_cons_succ] at hk; exact hp.solid k v hk
      · cases k with
        | zero => simp only [List.getElem?_cons_zero, Option.some.injEq] at hk; subst hk; exact Moved.noBor h1
        | succ k => simp only [List.getElem?_cons_succ] at hk; exact hp.noBor k v hk
      · constructor
        · rintro (hx | hx)
          · exact ⟨0, rfl, hx⟩
          · obtain ⟨k, h1, h2⟩ := (hF x).1 hx
            exact ⟨k + 1, by simpa using h1, h2⟩
        · rintro ⟨k, h1, h2⟩
          cases k with
          | zero => exact .inl h2
          | succ k => exact .inr ((hF x).2 ⟨k, by simpa using h1, h2⟩)
    · cases h20
theorem range_map_getD {α : Type} (l : List α) (d : α) : (List.range l.length).map (fun k => l.getD k d) = l := by
  apply List.ext_getElem?
  intro i
  by_cases h : i < l.length
  · simp [h, List.getD_eq_getElem?_getD]
  · simp [h]
theorem zip_parts (parts : List (Nat × Operand)) (f : Operand → Value) (n : Nat) (hn : n = parts.length) : parts.map (fun p => (p.1, f p.2)) = (parts.map (·.1)).zip ((List.range n).map fun k => (parts.map fun p => f p.2).getD k Go.undef) := by
  subst hn
  have := range_map_getD (parts.map fun p => f p.2) Go.undef
  rw [List.length_map] at this
  rw [this, List.zip_map']
theorem zerCells {C : Cx} {zs : List AV} {t : TypeId} (hz : zer P t = some zs) (h1 : oneCells P t = true) : ∃ i z, P.info? t = some i ∧ i.zero = some z ∧ zs = z.cells.toList.map ofConst ∧ CellsR C zs z.cells (fun _ _ => False) := by
  obtain ⟨i, hi, hz⟩ := Option.bind_eq_some_iff.1 hz
  obtain ⟨z, hz0, rfl⟩ := Option.map_eq_some_iff.1 hz
  refine ⟨i, z, hi, hz0, rfl, by simp, fun k u cu h1 h2 => ?_, fun k u hu => ?_, fun _ _ h => h.elim, fun _ _ _ h => h.elim⟩
  · simp only [List.getElem?_map, Array.getElem?_toList, h2, Option.map_some, Option.some.injEq] at h1
    subst h1
    exact .lit _ _ (.ofConst _ _ _)
  · simp only [oneCells, hi, hz0, Option.bind_some, Option.any_some] at h1
    exact List.all_eq_true.1 h1 u (by obtain ⟨hlt, rfl⟩ := Array.getElem?_eq_some_iff.1 hu; exact Array.getElem_mem_toList hlt)
/-- The operands of a literal's parts, moved. -/
theorem StC.parts {a : Act} {w : World} {C : Cx} {F : Nat → FP} (hs : StC K fr a w C F) {parts : List (Nat × Operand)} {vs : List AV} {fr1 : Fr} (hm : fr.matA (parts.map fun p => fr.ev p.2) = some (vs, fr1)) :
    ∃ (F' : Nat → FP) (Fc : Nat → FP) (Fv : FP), vs.length = parts.length ∧ Pend C vs (fun k => (parts.map fun p => a.eval p.2).getD k Go.undef) Fc ∧ (∀ x, Fv x ↔ ∃ k, (vs[k]?).isSome ∧ Fc k x) ∧ Moved C fr fr1 (fun t => a.tmps.getD t Go.undef) F F' Fv := by
  obtain ⟨F', Fc, Fv, hl, hp, hF, hmv⟩ := Rel.matA (cx := fun k => (parts.map fun p => a.eval p.2).getD k Go.undef) _ hs.rel (fun k x hk => by
    rw [List.getElem?_map] at hk
    obtain ⟨p, hp, rfl⟩ := Option.map_eq_some_iff.1 hk
    simp only [List.getD_eq_getElem?_getD, List.getElem?_map, hp, Option.map_some, Option.getD_some]
    exact hs.ev p.2) hm
  exact ⟨F', Fc, Fv, by simpa using hl, hp, hF, hmv⟩
theorem OpS.build {t : TypeId} {parts : Array (Nat × Operand)} {vs : List AV} {fr1 : Fr} {pl : List (Nat × Nat)} {zs out : List AV} (ho : o.op = .build t parts) (hm : fr.matA (parts.toList.map fun p => fr.ev p.2) = some (vs, fr1))
    (hpl : bplc P t = some pl) (hz : zer P t = some zs) (h1 : oneCells P t = true) (hf : afill (fun i => pl[i]?) zs ((parts.toList.map (·.1)).zip vs) = some out) (hd : fr1.dst o.dst (.agg out) = some fr') : OpS P K o fr fr' := by
  rintro a w ⟨C, F, hst⟩ next Q hn
  obtain ⟨F', Fp, Fv, hl, hp, hF, hmv⟩ := hst.parts hm
  obtain ⟨i, z, hi, hz0, rfl, hcz⟩ := zerCells (C := C) hz h1
  obtain ⟨cur', Fc', hfill, hcr, hsub⟩ := fill_sound (fun i => pl[i]?) (parts.toList.map (·.1)) vs _ Fp _ out z.cells _ (by simp [hl]) hp hcz (fun _ _ _ _ _ h => h) hf
  have hw := hst.hw
  subst hw
  have hb : P.built t (parts.map fun (i, x) => (i, a.eval x)).toList = some cur' := by
    unfold bplc at hpl
    split at hpl
    · rename_i fields hfs
      simp only [Program.built, hi, hfs, hz0, hpl]
      rw [Array.toList_map, zip_parts parts.toList a.eval vs.length (by simpa using hl)]
      simpa using hfill
    · cases hpl
  have hg : fr1.g = C.g := hmv.g.trans hst.hg.symm
  refine wp_value (cv := .agg cur') (w' := C.w) ?_ (hn _ _ ?_)
  · have hr := run_build (P := P) C.w t (parts.map fun (i, x) => (i, a.eval x)) cur' hb
    simp [execOp, ho, hr]
  · refine StC.put (F' := F') (Fv := fun x => ∃ k, (out[k]?).isSome ∧ Fc' k x) hst.eta rfl hg.symm hmv.rel (.agg out cur' Fc' _ hcr.size hcr.vr (fun x => Iff.rfl) (fun k k' x _ _ h1 h2 => hcr.dis k k' x h1 h2)) ?_ ?_ hst.lt (fun t x hx => hst.new t x (hmv.sub t x hx)) ?_ ?_ hst.fram hst.defers (by rw [hmv.n]; exact hst.size) hd
    all_goals have hin : ∀ x, (∃ k, (out[k]?).isSome ∧ Fc' k x) → Fv x := fun x ⟨k, _, hx⟩ => (hsub k x hx).elim (fun ⟨_, h⟩ => h.elim) (fun ⟨k', h1, h2⟩ => (hF x).2 ⟨k', h1, h2⟩)
    · exact fun t x h1 h2 => hmv.dis t x h1 (hin x h2)
    · exact fun x hx => let ⟨t, ht⟩ := hmv.own x (hin x hx); hst.rel.sub t x ht
    · exact fun x hx => let ⟨t, ht⟩ := hmv.own x (hin x hx); hst.new t x ht
    · exact fun x hx => ⟨(hst.avoid x hx).1, fun t h1 => (hst.avoid x hx).2 t (hmv.sub t x h1), fun h1 => let ⟨t, ht⟩ := hmv.own x (hin x h1); (hst.avoid x hx).2 t ht⟩
def chunk (n s : Nat) (l : List AV) : List (List AV) := (List.range n).map fun j => (l.drop (j * s)).take s
theorem chunk_cell {n s : Nat} {l : List AV} (hl : l.length = n * s) (j k : Nat) : cell (chunk n s l) j k = if j < n ∧ k < s then l[j * s + k]? else none := by
  unfold cell chunk
  by_cases hj : j < n
  · by_cases hk : k < s
    · simp [hj, hk, List.getElem?_take, List.getElem?_drop]
    · simp [hj, hk, List.getElem?_take]
  · simp [hj]
theorem chunk_rows {n s : Nat} {l : List AV} (hl : l.length = n * s) : ∀ row ∈ chunk n s l, row.length = s := by
  intro row hr
  obtain ⟨j, hj, rfl⟩ := List.mem_map.1 hr
  have hj' : j < n := List.mem_range.1 hj
  have h1 : (j + 1) * s ≤ n * s := Nat.mul_le_mul_right _ hj'
  rw [Nat.add_mul] at h1
  simp [hl]
  omega
theorem idx_lt {n s j k : Nat} (hj : j < n) (hk : k < s) : j * s + k < n * s := by
  have h1 : (j + 1) * s ≤ n * s := Nat.mul_le_mul_right _ hj
  rw [Nat.add_mul] at h1
  omega
theorem idx_inj {s j k j' k' : Nat} (hk : k < s) (hk' : k' < s) (h : j * s + k = j' * s + k') : j = j' ∧ k = k' := by
  have h0 : 0 < s := by omega
  have e1 : (j * s + k) / s = j := by rw [Nat.mul_comm, Nat.mul_add_div h0, Nat.div_eq_of_lt hk, Nat.add_zero]
  have e2 : (j' * s + k') / s = j' := by rw [Nat.mul_comm, Nat.mul_add_div h0, Nat.div_eq_of_lt hk', Nat.add_zero]
  have : j = j' := by rw [← e1, ← e2, h]
  subst this
  exact ⟨rfl, by omega⟩
/-- A slice's zero cells. -/
def zerN (zs : List AV) (m : Nat) : List AV := (List.range m).map fun i => (zs[i % zs.length]?).getD .undef
theorem OpS.buildSlice {t : TypeId} {n s : Nat} {parts : Array (Nat × Operand)} {vs : List AV} {fr1 : Fr} {zs out : List AV} (ho : o.op = .buildSlice t n parts) (hm : fr.matA (parts.toList.map fun p => fr.ev p.2) = some (vs, fr1))
    (hs : elsz P t = some s) (hz : zer P (P.elem t) = some zs) (h1 : oneCells P (P.elem t) = true) (hn : 0 < n * s) (hn2 : n * s ≤ 16777216) (hf : afill (fun i => some (i * s, s)) (zerN zs (n * s)) ((parts.toList.map (·.1)).zip vs) = some out)
    (hd : (fr1.fresh 1).dst o.dst (.own fr1.g s (chunk n s out)) = some fr') : OpS P K o fr fr' := by
  rintro a w ⟨C, F, hst⟩ next Q hnx
  obtain ⟨F', Fp, Fv, hl, hp, hF, hmv⟩ := hst.parts hm
  obtain ⟨i, z, hi, hz0, rfl, hcz⟩ := zerCells (C := C) hz h1
  obtain ⟨hu, i', hi', rfl⟩ := elsz_slice hs
  rw [hi] at hi'
  cases hi'
  have hw := hst.hw
  subst hw
  let cz : Array Value := (Array.range (n * i.size)).map (z.cells[· % z.cells.size]!)
  have hczN : CellsR C (zerN (z.cells.toList.map ofConst) (n * i.size)) cz (fun _ _ => False) := by
    have hcz' : ∀ (k : Nat) (cu : Value), cz[k]? = some cu → k < n * i.size ∧ cu = z.cells[k % z.cells.size]! := by
      intro k cu h
      have hlt : k < n * i.size := by have := (Array.getElem?_eq_some_iff.1 h).1; simpa [cz] using this
      simp [cz, hlt] at h
      exact ⟨hlt, h.symm⟩
    refine ⟨by simp [zerN, cz], fun k u cu h1 h2 => ?_, fun k u hk => ?_, fun _ _ h => h.elim, fun _ _ _ h => h.elim⟩
    · obtain ⟨hlt, rfl⟩ := hcz' k cu h2
      simp only [zerN, List.getElem?_map, List.getElem?_range hlt, Option.map_some, Option.some.injEq, List.length_map, Array.length_toList] at h1
      subst h1
      by_cases h0 : z.cells.size = 0
      · have : z.cells = #[] := Array.eq_empty_of_size_eq_zero h0
        simp [this]
        exact .lit _ _ (.undef _)
      · have hm : k % z.cells.size < z.cells.size := Nat.mod_lt _ (by omega)
        simp [hm]
        exact .lit _ _ (.ofConst _ _ _)
    · obtain ⟨hlt, rfl⟩ := hcz' k u hk
      by_cases h0 : z.cells.size = 0
      · have : z.cells = #[] := Array.eq_empty_of_size_eq_zero h0
        simp [this]
        rfl
      · have hm : k % z.cells.size < z.cells.size := Nat.mod_lt _ (by omega)
        simp only [getElem!_pos, hm]
        exact hcz.one _ _ (Array.getElem?_eq_getElem hm)
  obtain ⟨cur', Fc', hfill, hcr, hsub⟩ := fill_sound (fun j => some (j * i.size, i.size)) (parts.toList.map (·.1)) vs _ Fp _ out cz _ (by simp [hl]) hp hczN (fun _ _ _ _ _ h => h) hf
  have hol : out.length = n * i.size := by
    have : ∀ (ps : List (Nat × AV)) (c o : List AV), afill (fun j => some (j * i.size, i.size)) c ps = some o → o.length = c.length := by
      intro ps
      induction ps with
      | nil => intro c o h; simp only [afill, Option.some.injEq] at h; rw [h]
      | cons p ps ih =>
        intro c o h
        obtain ⟨q, v⟩ := p
        simp only [afill] at h
        split at h
        · have := ih _ _ h
          rw [this, setN_length]
        · cases h
    have := this _ _ _ hf
    simpa [zerN] using this
  have hcs : cur'.size = n * i.size := by rw [hcr.size, hol]
  have hnb := NewBlock.alloc C.w (.cells cur' (P.elem t))
  have hg : fr1.g = C.g := hmv.g.trans hst.hg.symm
  have hFp : ∀ k x, Fc' k x → Fv x := fun k x hx => (hsub k x hx).elim (fun ⟨_, h⟩ => h.elim) (fun ⟨k', h1, h2⟩ => (hF x).2 ⟨k', h1, h2⟩)
  have hFD : ∀ x, Fv x → C.D x := fun x hx => let ⟨t, ht⟩ := hmv.own x hx; hst.rel.sub t x ht
  have hvr := VR.newOwn (C := C) (rows := chunk n i.size out) (n := n) (cap := n) (Fc := fun j k => Fc' (j * i.size + k)) (Fv := fun x => ∃ j k, (cell (chunk n i.size out) j k).isSome ∧ Fc' (j * i.size + k) x) hnb hst.lt (by simp [chunk]) (chunk_rows hol) (Nat.le_refl _)
    (by have : n ≤ n * i.size := Nat.le_mul_of_pos_right _ (Nat.pos_of_mul_pos_left hn); omega) hcs (fun j k u hj => by
      rw [chunk_cell hol] at hj
      split at hj
      · rename_i e
        have hlt := idx_lt e.1 e.2
        exact ⟨_, at_getD (by rw [hcs]; exact hlt), hcr.vr _ u _ hj (at_getD (by rw [hcs]; exact hlt))⟩
      · cases hj) (fun x => Iff.rfl) (fun j k j' k' x h1 h2 h3 h4 => by
      rw [chunk_cell hol] at h1 h2
      have e := hcr.dis _ _ x h3 h4
      split at h1
      · split at h2
        · rename_i e1 e2
          exact idx_inj e1.2 e2.2 e
        · cases h2
      · cases h1) hcr.one (fun x ⟨j, k, _, hx⟩ => hFD x (hFp _ x hx))
  refine wp_value (cv := .slice (some ⟨C.w.heap.size, 0, none⟩) n n) (w' := C.w.alloc (.cells cur' (P.elem t))) ?_ (hnx _ _ ?_)
  · have hr := run_buildSlice (P := P) C.w t (P.elem t) n (parts.map fun (i, x) => (i, a.eval x)) cur' i z hu hi hz0 (by omega) (by omega) (by
      rw [Array.toList_map, zip_parts parts.toList a.eval vs.length (by simpa using hl)]
      exact hfill)
    simp [execOp, ho, hr]
  · have hm' : Moved C fr fr1 (fun t => a.tmps.getD t Go.undef) F F' (fun x => ∃ j k, (cell (chunk n i.size out) j k).isSome ∧ Fc' (j * i.size + k) x) :=
      ⟨hmv.rel, fun t x h1 ⟨j, k, _, hx⟩ => hmv.dis t x h1 (hFp _ x hx), hmv.sub, fun x ⟨j, k, _, hx⟩ => hmv.own x (hFp _ x hx), hmv.g, hmv.n⟩
    exact hst.alloc hm' hnb hvr (by rw [← hg]; exact hd)
theorem OpS.buildSlice0 {t : TypeId} {s : Nat} (ho : o.op = .buildSlice t 0 #[]) (hs : elsz P t = some s) (hd : (fr.fresh 1).dst o.dst (.own fr.g s []) = some fr') : OpS P K o fr fr' := by
  rintro a w ⟨C, F, hst⟩ next Q hnx
  obtain ⟨hu, i, hi, rfl⟩ := elsz_slice hs
  have hw := hst.hw
  subst hw
  have hnb := NewBlock.alloc C.w (.cells #[] (P.elem t))
  have hvr := VR.newOwn (C := C) (rows := []) (n := 0) (cap := 0) (sz := i.size) (Fc := fun _ _ _ => False) (Fv := fun _ => False) hnb hst.lt rfl (by simp) (Nat.le_refl _) (by omega) (by simp) (fun j k u hj => by simp [cell] at hj) (fun x => ⟨fun h => h.elim, fun ⟨_, _, _, h⟩ => h⟩) (fun _ _ _ _ _ _ _ h => h.elim) (fun k u hu => by simp at hu) (fun x h => h.elim)
  refine wp_value (cv := .slice (some ⟨C.w.heap.size, 0, none⟩) 0 0) (w' := C.w.alloc (.cells #[] (P.elem t))) ?_ (hnx _ _ (hst.alloc (.same hst.rel) hnb hvr (by rw [hst.hg]; exact hd)))
  simp [execOp, ho, Instr.buildSlice, run_underlying hu, sizeOf, typeInfo, hi, Instr.fill, newRow, Array.range_zero']
def zer1 (P : Program) (t : TypeId) : Option (Value × Nat) :=
  match P.underlying t with
  | some (.slice e) => match (P.info? e).map (fun i => (i.zero, i.size, i.bytes)) with
    | some (some z, 1, b) => some (z, b)
    | _ => none
  | _ => none
theorem OpS.makeSlice {t : TypeId} {x y : Operand} {k k' : IntKind} {n : Nat} {z : Value} {b : Nat} (ho : o.op = .makeSlice t x y) (hz : zer1 P t = some (z, b)) (hz1' : z.oneCell' = true) (hx : fr.ev x = .int k n) (hy : fr.ev y = .int k' n) (hb : b * n ≤ 281474976710656) (h63 : n ≤ 9223372036854775807)
    (hd : (fr.fresh 1).dst o.dst (.own fr.g 1 (List.replicate n [ofConst z])) = some fr') : OpS P K o fr fr' := by
  rintro a w ⟨C, F, hst⟩ next Q hnx
  have hw := hst.hw
  subst hw
  have h1 := hst.ev x
  have h2 := hst.ev y
  rw [hx] at h1
  rw [hy] at h2
  obtain ⟨e, hu, hinf⟩ : ∃ e, P.underlying t = some (.slice e) ∧ (P.info? e).map (fun i => (i.zero, i.size, i.bytes)) = some (some z, 1, b) := by
    unfold zer1 at hz
    split at hz
    · rename_i e he
      split at hz
      · rename_i z' b' hzz
        cases hz
        exact ⟨e, he, hzz⟩
      · cases hz
    · cases hz
  have hz1 : z.cells = #[z] := by cases z <;> first | rfl | simp [Value.oneCell'] at hz1'
  have hr := run_make_row' (P := P) t e z b hu hinf hz1 k k' n hb h63 C.w
  have hnb := NewBlock.alloc C.w (.cells (madeCells #[z] n) e)
  have hmade : ∀ (i : Nat) (u : Value), (madeCells #[z] n)[i]? = some u → u = z := by
    intro i u hu
    have hlt : i < n := by have := (Array.getElem?_eq_some_iff.1 hu).1; simpa [size_madeCells] using this
    simp [madeCells, hlt, Nat.mod_one] at hu
    exact hu.symm
  have hat : ∀ (i : Nat), i < n → (madeCells #[z] n)[i]? = some z := by
    intro i hlt
    simp [madeCells, hlt, Nat.mod_one]
  have hcell : ∀ j k u, cell (List.replicate n [ofConst z]) j k = some u → j < n ∧ k = 0 ∧ u = ofConst z := by
    intro j k u h
    unfold cell at h
    rw [List.getElem?_replicate] at h
    split at h
    · rename_i hj
      cases k with
      | zero => simp at h; exact ⟨hj, rfl, h.symm⟩
      | succ k => simp at h
    · simp at h
  have hvr := VR.newOwn (C := C) (rows := List.replicate n [ofConst z]) (n := n) (cap := n) (sz := 1) (Fc := fun _ _ _ => False) (Fv := fun _ => False) hnb hst.lt (by simp) (fun row hr => by rw [List.eq_of_mem_replicate hr]; rfl) (Nat.le_refl _) h63 (by simp [size_madeCells])
    (fun j k u hj => by
      obtain ⟨h1, rfl, rfl⟩ := hcell j k u hj
      exact ⟨z, by simpa using hat j h1, .lit _ _ (.ofConst _ _ _)⟩) (fun x => ⟨fun h => h.elim, fun ⟨_, _, _, h⟩ => h⟩) (fun _ _ _ _ _ _ _ h => h.elim) (fun k u hu => by rw [hmade k u hu]; exact hz1') (fun x h => h.elim)
  refine wp_value (cv := .slice (some ⟨C.w.heap.size, 0, none⟩) n n) (w' := C.w.alloc (.cells (madeCells #[z] n) e)) ?_ (hnx _ _ (hst.alloc (.same hst.rel) hnb hvr (by rw [hst.hg]; exact hd)))
  simp [execOp, ho, h1.isInt, h2.isInt, hr]
theorem OpS.makeMap {t : TypeId} (ho : o.op = .makeMap t none) (hd : (fr.fresh 1).dst o.dst (.mp fr.g [] []) = some fr') : OpS P K o fr fr' := by
  rintro a w ⟨C, F, hst⟩ next Q hnx
  have hw := hst.hw
  subst hw
  have hnb := NewBlock.alloc C.w (.map #[] 0)
  refine wp_value (cv := .map (some C.w.heap.size)) (w' := C.w.alloc (.map #[] 0)) (by unfold execOp; rw [ho]; rfl) (hnx _ _ (hst.alloc (hv := .map (some C.w.heap.size)) (.same hst.rel) hnb ?_ hd))
  rw [← hst.hg]
  exact (VR.mp C.g [] [] C.w.heap.size 0 #[] (Nat.lt_succ_self _) (by simp [Cx.new]) hnb.at_ rfl rfl (fun i k e h => by simp at h) (fun i k e h => by simp at h)).fp fun x => ⟨fun h => h.elim id (fun h => h.elim), .inl⟩
end
end Go.Proofs.Ytgoajlgkbcongaa.Vm
end
