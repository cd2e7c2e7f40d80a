/- Contracts of functions, fourth part, the reading of the argument, and the plain laws of dce, for every unit within the bound. -/
import Derived.Test.YtgoajlgkbcongaaMaF
import Derived.Deep.Slices
import Derived.OpenShut
import Derived.JoinedCond
import Derived.ChangeStays
import Derived.ChangeBears
section
set_option linter.unusedVariables false
set_option linter.unusedSimpArgs false
set_option maxRecDepth 100000
set_option maxHeartbeats 4000000
namespace Go.Proofs.Ytgoajlgkbcongaa.Vm
open Go Go.RowKit Go.Proofs
def dropB (need : List Bool) (x : Ins) : Bool := if dceMakes x.op then !(need.getD x.dst.toNat false) else false
def goneB (need : List Bool) (x : Ins) : Bool := if x.op == 46 then (if decide (x.a ≥ 0) then !(need.getD x.a.toNat false) else false) else false
def dceIns (need : List Bool) (x : Ins) : Ins := if goneB need x then { x with a := -1 } else x
def dceRow (need : List Bool) (l : List Ins) : List Ins := (l.filter fun x => !dropB need x).map (dceIns need)
def dceBlk (need : List Bool) (b : Block) : Block := { ins := dceRow need b.ins, term := b.term }
def dceFnW (need : List Bool) (f : Fn) : Fn := { f with blocks := f.blocks.map (dceBlk need) }
noncomputable def dceFn (f : Fn) : Fn := dceFnW (needOf f f.size.toNat) f
noncomputable def dceUnit (u : Unt) : Unt := { u with funcs := u.funcs.map dceFn }
theorem dceRow_keep {need : List Bool} {l : List Ins} {i : Nat} {x : Ins} (h : l[i]? = some x) (hd : dropB need x = false) : dceRow need (l.take (i + 1)) = dceRow need (l.take i) ++ [dceIns need x] := by
  unfold dceRow
  rw [take_snoc h, List.filter_append, List.map_append, List.filter_cons, hd]; rfl
theorem dceRow_drop {need : List Bool} {l : List Ins} {i : Nat} {x : Ins} (h : l[i]? = some x) (hd : dropB need x = true) : dceRow need (l.take (i + 1)) = dceRow need (l.take i) := by
  unfold dceRow
  rw [take_snoc h, List.filter_append, List.map_append, List.filter_cons, hd]; simp
theorem dceRow_len (need : List Bool) (l : List Ins) : (dceRow need l).length ≤ l.length := by unfold dceRow; rw [List.length_map]; exact List.length_filter_le _ _
theorem frz_inss (l : List Ins) : (AV.own 0 7 (l.map insRow)).frz = .fz (l.map insRow) := by rw [frz_own, List.map_map]; exact congrArg AV.fz (List.map_congr_left fun x _ => frz_insRow x)
theorem frz_inss' (id : Nat) (l : List Ins) : (AV.own id 7 (l.map insRow)).frz = .fz (l.map insRow) := by rw [frz_own, List.map_map]; exact congrArg AV.fz (List.map_congr_left fun x _ => frz_insRow x)
theorem all_ins (l : List Ins) : (l.map insRow).all (fun r => r.length == 7) = true := by simp [insRow]
attribute [go_sem] frz_inss' all_ins
theorem fun56 (f : Fn) (N : Nat) (hf : DceOk f N) (hbd : ∀ b ∈ f.blocks, ∀ x ∈ b.ins, (x.op == 46) = true → x.a < (N : Int)) : Fun Try.prog 56 [.agg (fnRow f)] (fun r => r.frz = .agg (fnRow (dceFnW (needOf f N) f))) := by
  refine Fun.ok Try.func56 rfl (by rfl) 76 Try.ntmps56 (by rfl) fun hok K g0 => ?_
  simp -implicitDefEqProofs only [go_sem]
  have hsz := hf.size
  have hbl := hf.blocks
  have hnl : (needOf f N).length = N := by simp [needOf]
  obtain ⟨need, hnd⟩ : ∃ n, n = needOf f N := ⟨_, rfl⟩
  rw [← hnd] at hnl
  rw [← hnd]
  obtain ⟨G, hG⟩ : ∃ G : Block → List AV, G = fun b => blockRow (dceBlk need b) := ⟨_, rfl⟩
  obtain ⟨GI, hGI⟩ : ∃ G : Ins → List AV, G = insRow := ⟨_, rfl⟩
  have hGf : ∀ (id : Nat) (l : List Ins), (AV.own id 7 (l.map GI)).frz = .fz (l.map GI) := fun id l => by rw [hGI]; exact frz_inss' id l
  refine AW.runs [] (by simp -implicitDefEqProofs only [go_sem, hGf]; rfl) (by trivial) ?_
  refine AW.runs [.fz (need.map boolRow)] (by simp -implicitDefEqProofs only [go_sem, hGf]; rfl) (ob1 (by rw [hnd]; exact (fun77 f N hf).obf)) ?_
  refine AW.runs [] (by simp -implicitDefEqProofs only [go_sem, hGf]; rfl) (by trivial) ?_
  refine AW.runs [] (by simp -implicitDefEqProofs only [go_sem, hGf]; rfl) (by trivial) ?_
  refine AW.nilOwn (4, [(0, 4)]) 5 (by simp -implicitDefEqProofs only [go_sem]) ?_
  refine AW.seq ?_
  refine AW.runs [] (by simp -implicitDefEqProofs only [go_sem, hGf]; rfl) (by trivial) ?_
  refine AW.block ?_
  refine AW.forH (X := Nat) (f.blocks.length) (fun b y => [(2, .box (g0 + 1) [.str ByteArray.empty, .int .i64 0, .bool false, .nil, .nil, .int .i64 0]), (3, .fz (need.map boolRow)), (4, .box (g0 + 2) [.str f.name, .int .i64 f.params, .bool f.result, .fz (f.vars.map varRow), .own y 5 ((f.blocks.take b).map G), .int .i64 f.size]), (15, .fz (f.blocks.map blockRow)), (16, .int .i64 f.blocks.length), (17, .int .i64 b)]) (fun b y => True) 76 ⟨(g0 + 3), trivial, ⟨by simp -implicitDefEqProofs only [go_sem], by simp -implicitDefEqProofs only [go_sem, hGf, List.take_zero, List.map_nil]; try simp [hGf, List.take_zero, List.map_nil]⟩⟩ fun b y g1 hib hinvb => ?_
  refine AW.runs [] (by simp -implicitDefEqProofs only [go_sem, hGf]; rfl) (by trivial) ?_
  refine AW.seq ?_
  refine AW.if (by simp -implicitDefEqProofs only [go_sem, hGf]; rfl) (fun ht18 => ?_) (fun ht18 => ?_)
  · have hltb : b < f.blocks.length := lt_dec ht18
    obtain ⟨blk, hb⟩ := get_of_lt hltb
    have hbm := List.mem_of_getElem? hb
    have hil : blk.ins.length ≤ 524288 := by have := ins_le hbm; have := hf.many; omega
    refine AW.skip ?_
    show AW _ _ _ _ _
    refine AW.seq ?_
    refine AW.block ?_
    refine AW.runs [] (by simp -implicitDefEqProofs only [go_sem, hGf, ht18, hb]; rfl) (by trivial) ?_
    refine AW.runs [] (by simp -implicitDefEqProofs only [go_sem, hGf, ht18, hb]; rfl) (by trivial) ?_
    refine AW.nilOwn (7, []) 7 (by simp -implicitDefEqProofs only [go_sem]) ?_
    refine AW.seq ?_
    refine AW.runs [] (by simp -implicitDefEqProofs only [go_sem, hGf, ht18, hb]; rfl) (by trivial) ?_
    refine AW.block ?_
    refine AW.forH (X := Nat) (blk.ins.length) (fun i z => [(2, .box (g0 + 1) [.str ByteArray.empty, .int .i64 0, .bool false, .nil, .nil, .int .i64 0]), (3, .fz (need.map boolRow)), (4, .box (g0 + 2) [.str f.name, .int .i64 f.params, .bool f.result, .fz (f.vars.map varRow), .own y 5 ((f.blocks.take b).map G), .int .i64 f.size]), (6, .box g1 (blockRow blk)), (7, .own z 7 ((dceRow need (blk.ins.take i)).map GI)), (15, .fz (f.blocks.map blockRow)), (16, .int .i64 f.blocks.length), (17, .int .i64 b), (22, .fz (blk.ins.map insRow)), (23, .int .i64 blk.ins.length), (24, .int .i64 i)]) (fun i z => True) 76 ⟨(g1 + 1), trivial, ⟨by simp -implicitDefEqProofs only [go_sem], by simp -implicitDefEqProofs only [go_sem, hGf, ht18, hb, List.take_zero, List.map_nil, dceRow, List.filter_nil]; try simp [hGf, ht18, hb, List.take_zero, List.map_nil, dceRow, List.filter_nil]⟩⟩ fun i z g2 hii hinvi => ?_
    refine AW.runs [] (by simp -implicitDefEqProofs only [go_sem, hGf, ht18, hb]; rfl) (by trivial) ?_
    refine AW.seq ?_
    refine AW.if (by simp -implicitDefEqProofs only [go_sem, hGf, ht18, hb]; rfl) (fun ht25 => ?_) (fun ht25 => ?_)
    · have hlti : i < blk.ins.length := lt_dec ht25
      obtain ⟨x, hx⟩ := get_of_lt hlti
      have hxm := List.mem_of_getElem? hx
      have hxa := hf.args blk hbm x hxm
      refine AW.skip ?_
      show AW _ _ _ _ _
      refine AW.seq ?_
      refine AW.block ?_
      refine AW.runs [] (by simp -implicitDefEqProofs only [go_sem, hGf, ht18, hb, ht25, hx]; rfl) (by trivial) ?_
      refine AW.seq ?_
      refine AW.block ?_
      refine AW.join [(2, .box (g0 + 1) [.str ByteArray.empty, .int .i64 0, .bool false, .nil, .nil, .int .i64 0]), (3, .fz (need.map boolRow)), (4, .box (g0 + 2) [.str f.name, .int .i64 f.params, .bool f.result, .fz (f.vars.map varRow), .own y 5 ((f.blocks.take b).map G), .int .i64 f.size]), (6, .box g1 (blockRow blk)), (7, .own z 7 ((dceRow need (blk.ins.take i)).map GI)), (9, .box g2 (insRow x)), (15, .fz (f.blocks.map blockRow)), (16, .int .i64 f.blocks.length), (17, .int .i64 b), (22, .fz (blk.ins.map insRow)), (23, .int .i64 blk.ins.length), (24, .int .i64 i), (28, .bool (dropB need x))] 76 ?_ (fun g3 => ?_)
      · cases c1 : dceMakes x.op
        · refine AW.run [.bool (dceMakes x.op)] (by simp -implicitDefEqProofs only [go_sem, hGf, ht18, hb, ht25, hx, c1]; rfl) (ob1 (by have h := (fun78 x).obb; (try simp only [insRow, hGf, ht18, hb, ht25, hx, c1] at h); exact h)) ?_
          exact ⟨by simp -implicitDefEqProofs only [go_sem], by simp -implicitDefEqProofs only [go_sem, hGf, ht18, hb, ht25, hx, c1, dropB]; try simp [hGf, ht18, hb, ht25, hx, c1, dropB]⟩
        · obtain ⟨d0, d1⟩ := hf.dst blk hbm x hxm c1
          obtain ⟨k, hk⟩ := Int.eq_ofNat_of_zero_le d0
          obtain ⟨nb, hnb⟩ := get_of_lt (show k < need.length by omega)
          have hgd := getD_of (d := false) hnb
          refine AW.run [.bool (dceMakes x.op)] (by simp -implicitDefEqProofs only [go_sem, hGf, ht18, hb, ht25, hx, c1, hk, hnb, hgd]; rfl) (ob1 (by have h := (fun78 x).obb; (try simp only [insRow, hGf, ht18, hb, ht25, hx, c1, hk, hnb, hgd] at h); exact h)) ?_
          exact ⟨by simp -implicitDefEqProofs only [go_sem], by simp -implicitDefEqProofs only [go_sem, hGf, ht18, hb, ht25, hx, c1, hk, hnb, hgd, dropB]; try simp [hGf, ht18, hb, ht25, hx, c1, hk, hnb, hgd, dropB]⟩
      · refine AW.if (by simp -implicitDefEqProofs only [go_sem, hGf, ht18, hb, ht25, hx]; rfl) (fun ht28 => ?_) (fun ht28 => ?_)
        · have hrw := dceRow_drop hx ht28
          refine AW.exit ?_
          show AW _ _ _ _ _
          refine AW.run [] (by simp -implicitDefEqProofs only [go_sem, hGf, ht18, hb, ht25, hx, ht28]; rfl) (by trivial) ?_
          exact ⟨hlti, z, trivial, ⟨by simp -implicitDefEqProofs only [go_sem], by simp -implicitDefEqProofs only [go_sem, hGf, ht18, hb, ht25, hx, ht28, step_int i (Nat.lt_of_lt_of_le hlti (by omega)), hrw]; try simp [hGf, ht18, hb, ht25, hx, ht28, step_int i (Nat.lt_of_lt_of_le hlti (by omega)), hrw]⟩⟩
        · have hrw0 := dceRow_keep hx ht28
          refine AW.join [(2, .box (g0 + 1) [.str ByteArray.empty, .int .i64 0, .bool false, .nil, .nil, .int .i64 0]), (3, .fz (need.map boolRow)), (4, .box (g0 + 2) [.str f.name, .int .i64 f.params, .bool f.result, .fz (f.vars.map varRow), .own y 5 ((f.blocks.take b).map G), .int .i64 f.size]), (6, .box g1 (blockRow blk)), (7, .own z 7 ((dceRow need (blk.ins.take i)).map GI)), (9, .box g2 (insRow x)), (15, .fz (f.blocks.map blockRow)), (16, .int .i64 f.blocks.length), (17, .int .i64 b), (22, .fz (blk.ins.map insRow)), (23, .int .i64 blk.ins.length), (24, .int .i64 i), (39, .bool (goneB need x))] 76 ?_ (fun g4 => ?_)
          · cases c1 : (x.op == 46)
            · refine AW.run [] (by simp -implicitDefEqProofs only [go_sem, hGf, ht18, hb, ht25, hx, ht28, c1]; rfl) (by trivial) ?_
              exact ⟨by simp -implicitDefEqProofs only [go_sem], by simp -implicitDefEqProofs only [go_sem, hGf, ht18, hb, ht25, hx, ht28, c1, goneB]; try simp [hGf, ht18, hb, ht25, hx, ht28, c1, goneB]⟩
            · cases c2 : decide (x.a ≥ 0)
              · refine AW.run [] (by simp -implicitDefEqProofs only [go_sem, hGf, ht18, hb, ht25, hx, ht28, c1, c2]; rfl) (by trivial) ?_
                exact ⟨by simp -implicitDefEqProofs only [go_sem], by simp -implicitDefEqProofs only [go_sem, hGf, ht18, hb, ht25, hx, ht28, c1, c2, goneB]; try simp [hGf, ht18, hb, ht25, hx, ht28, c1, c2, goneB]⟩
              · have hal := hbd blk hbm x hxm c1
                obtain ⟨k, hk⟩ := Int.eq_ofNat_of_zero_le (of_decide_eq_true c2)
                obtain ⟨nb, hnb⟩ := get_of_lt (show k < need.length by omega)
                have hgd := getD_of (d := false) hnb
                refine AW.run [] (by simp -implicitDefEqProofs only [go_sem, hGf, ht18, hb, ht25, hx, ht28, c1, c2, hk, hnb, hgd, nn]; rfl) (by trivial) ?_
                exact ⟨by simp -implicitDefEqProofs only [go_sem], by simp -implicitDefEqProofs only [go_sem, hGf, ht18, hb, ht25, hx, ht28, c1, c2, hk, hnb, hgd, nn, goneB]; try simp [hGf, ht18, hb, ht25, hx, ht28, c1, c2, hk, hnb, hgd, nn, goneB]⟩
          · refine AW.if (by simp -implicitDefEqProofs only [go_sem, hGf, ht18, hb, ht25, hx, ht28]; rfl) (fun ht39 => ?_) (fun ht39 => ?_)
            · have hrow : (dceRow need (blk.ins.take i)).map GI ++ [[AV.int .u8 x.op, AV.int .i64 x.dst, AV.int .i64 (-1), AV.int .i64 x.b, AV.int .i64 x.var, AV.int .i64 x.num, AV.fz (x.args.map intRow)]] = (dceRow need (blk.ins.take (i + 1))).map GI := by rw [hrw0, List.map_append, hGI]; unfold dceIns; rw [ht39]; rfl
              refine AW.run [] (by simp -implicitDefEqProofs only [go_sem, hGf, ht18, hb, ht25, hx, ht28, ht39, hrow]; rfl) (by trivial) ?_
              show AW _ _ _ _ _
              refine AW.runs [.fz (x.args.map intRow)] (by simp -implicitDefEqProofs only [go_sem, hGf, ht18, hb, ht25, hx, ht28, ht39, hrow]; rfl) (ob1 ((fun79 x.args hxa).obf)) ?_
              have hlb : ((dceRow need (blk.ins.take i)).length + 1) * 72 ≤ 140737488355328 := by have := dceRow_len need (blk.ins.take i); rw [List.length_take] at this; omega
              refine AW.run [] (by simp -implicitDefEqProofs only [go_sem, hGf, ht18, hb, ht25, hx, ht28, ht39, hrow, hlb]; rfl) (by trivial) ?_
              show AW _ _ _ _ _
              refine AW.run [] (by simp -implicitDefEqProofs only [go_sem, hGf, ht18, hb, ht25, hx, ht28, ht39, hrow, hlb]; rfl) (by trivial) ?_
              exact ⟨hlti, (g4 + 1), trivial, ⟨by simp -implicitDefEqProofs only [go_sem], by simp -implicitDefEqProofs only [go_sem, hGf, ht18, hb, ht25, hx, ht28, ht39, hrow, hlb, step_int i (Nat.lt_of_lt_of_le hlti (by omega))]; try simp [hGf, ht18, hb, ht25, hx, ht28, ht39, hrow, hlb, step_int i (Nat.lt_of_lt_of_le hlti (by omega))]⟩⟩
            · have hrow : (dceRow need (blk.ins.take i)).map GI ++ [[AV.int .u8 x.op, AV.int .i64 x.dst, AV.int .i64 x.a, AV.int .i64 x.b, AV.int .i64 x.var, AV.int .i64 x.num, AV.fz (x.args.map intRow)]] = (dceRow need (blk.ins.take (i + 1))).map GI := by rw [hrw0, List.map_append, hGI]; unfold dceIns; rw [ht39]; rfl
              refine AW.skip ?_
              show AW _ _ _ _ _
              refine AW.runs [.fz (x.args.map intRow)] (by simp -implicitDefEqProofs only [go_sem, hGf, ht18, hb, ht25, hx, ht28, ht39, hrow]; rfl) (ob1 ((fun79 x.args hxa).obf)) ?_
              have hlb : ((dceRow need (blk.ins.take i)).length + 1) * 72 ≤ 140737488355328 := by have := dceRow_len need (blk.ins.take i); rw [List.length_take] at this; omega
              refine AW.run [] (by simp -implicitDefEqProofs only [go_sem, hGf, ht18, hb, ht25, hx, ht28, ht39, hrow, hlb]; rfl) (by trivial) ?_
              show AW _ _ _ _ _
              refine AW.run [] (by simp -implicitDefEqProofs only [go_sem, hGf, ht18, hb, ht25, hx, ht28, ht39, hrow, hlb]; rfl) (by trivial) ?_
              exact ⟨hlti, (g4 + 1), trivial, ⟨by simp -implicitDefEqProofs only [go_sem], by simp -implicitDefEqProofs only [go_sem, hGf, ht18, hb, ht25, hx, ht28, ht39, hrow, hlb, step_int i (Nat.lt_of_lt_of_le hlti (by omega))]; try simp [hGf, ht18, hb, ht25, hx, ht28, ht39, hrow, hlb, step_int i (Nat.lt_of_lt_of_le hlti (by omega))]⟩⟩
    · have hie := ge_dec ht25
      refine AW.exit ?_
      show AW _ _ _ _ _
      refine AW.ice (7, []) (by simp -implicitDefEqProofs only [go_sem]; rfl) ?_
      have hsn : (f.blocks.take b).map G ++ [[AV.fz ((dceRow need (blk.ins.take i)).map GI), AV.int .u8 blk.term.kind, AV.int .i64 blk.term.a, AV.int .i64 blk.term.to, AV.int .i64 blk.term.els]] = (f.blocks.take (b + 1)).map G := by rw [List.take_of_length_le hie, take_map _ hb, hG, hGI]; rfl
      have hyb : (min b f.blocks.length + 1) * 56 ≤ 140737488355328 := by omega
      refine AW.runs [] (by simp -implicitDefEqProofs only [go_sem, hGf, ht18, hb, ht25, hyb]; rfl) (by trivial) ?_
      refine AW.run [] (by simp -implicitDefEqProofs only [go_sem, hGf, ht18, hb, ht25, hyb]; rfl) (by trivial) ?_
      show AW _ _ _ _ _
      refine AW.run [] (by simp -implicitDefEqProofs only [go_sem, hGf, ht18, hb, ht25, hyb]; rfl) (by trivial) ?_
      exact ⟨hltb, (g2 + 1), trivial, ⟨by simp -implicitDefEqProofs only [go_sem], by simp -implicitDefEqProofs only [go_sem, hGf, ht18, hb, ht25, hyb, step_int b (Nat.lt_of_lt_of_le hltb (by omega)), hsn]; try simp [hGf, ht18, hb, ht25, hyb, step_int b (Nat.lt_of_lt_of_le hltb (by omega)), hsn]⟩⟩
  · have hbe := ge_dec ht18
    rw [List.take_of_length_le hbe]
    refine AW.exit ?_
    show AW _ _ _ _ _
    refine AW.runs [] (by simp -implicitDefEqProofs only [go_sem, hGf, ht18]; rfl) (by trivial) ?_
    exact AW.ret ⟨.inl rfl, _, (show outR Try.prog _ [.cell 2 37] = some _ from by simp -implicitDefEqProofs only [go_sem]; rfl), by have hfr : (f.blocks.map G).map (fun r => r.map AV.frz) = f.blocks.map G := (by rw [hG, List.map_map]; exact List.map_congr_left fun b _ => frz_blockRow _); exact Eq.trans (b := .agg [.str f.name, .int .i64 f.params, .bool f.result, .fz (f.vars.map varRow), .fz (f.blocks.map G), .int .i64 f.size]) (by simp -implicitDefEqProofs only [go_sem, hfr]) (by rw [hG]; show _ = AV.agg [AV.str f.name, .int .i64 f.params, .bool f.result, .fz (f.vars.map varRow), AV.fz ((f.blocks.map (dceBlk need)).map blockRow), .int .i64 f.size]; rw [List.map_map]; rfl)⟩
/-- What dce asks of a unit. -/
structure DceU (u : Unt) : Prop where
  fn : ∀ f ∈ u.funcs, DceOk f f.size.toNat ∧ ∀ b ∈ f.blocks, ∀ x ∈ b.ins, (x.op == 46) = true → x.a < (f.size.toNat : Int)
theorem fnRow_len (f : Fn) : (fnRow f).length = 6 := rfl
attribute [go_sem] fnRow_len
theorem fun19 (u : Unt) (hu : Modest u) (hd : DceU u) : Fun Try.prog 19 [.agg (untRow u)] (fun r => r.frz = .agg (untRow (dceUnit u))) := by
  refine Fun.ok Try.func19 rfl (by rfl) 24 Try.ntmps19 (by rfl) fun hok K g0 => ?_
  simp -implicitDefEqProofs only [go_sem]
  obtain ⟨G, hG⟩ : ∃ G : Fn → List AV, G = fun f => fnRow (dceFn f) := ⟨_, rfl⟩
  have hGa : ∀ f, (AV.agg (G f)) = .agg (fnRow (dceFn f)) := fun f => by rw [hG]
  have hGl : ∀ f, (G f).length = 6 := fun f => by rw [hG]; rfl
  have hGt : ∀ f, flatRows [G f] = true := fun f => by rw [hG]; simp [flatRows, fnRow, AV.flat]
  refine AW.runs [] (by simp -implicitDefEqProofs only [go_sem]; rfl) (by trivial) ?_
  refine AW.runs [] (by simp -implicitDefEqProofs only [go_sem]; rfl) (by trivial) ?_
  refine AW.runs [] (by simp -implicitDefEqProofs only [go_sem]; rfl) (by trivial) ?_
  refine AW.nilOwn (3, [(0, 0)]) 6 (by simp -implicitDefEqProofs only [go_sem]) ?_
  refine AW.seq ?_
  refine AW.runs [] (by simp -implicitDefEqProofs only [go_sem]; rfl) (by trivial) ?_
  refine AW.block ?_
  refine AW.forH (X := Nat) (u.funcs.length) (fun i y => [(2, .box (g0 + 1) [.nil, .int .i64 0, .nil]), (3, .box (g0 + 2) [.own y 6 ((u.funcs.take i).map G), .int .i64 u.main, .fz (u.points.map pointRow)]), (9, .fz (u.funcs.map fnRow)), (10, .int .i64 u.funcs.length), (11, .int .i64 i)]) (fun i y => True) 24 ⟨(g0 + 3), trivial, ⟨by simp -implicitDefEqProofs only [go_sem], by simp -implicitDefEqProofs only [go_sem, List.take_zero, List.map_nil]; try simp [List.take_zero, List.map_nil]⟩⟩ fun i y g1 hii hinvi => ?_
  refine AW.runs [] (by simp -implicitDefEqProofs only [go_sem]; rfl) (by trivial) ?_
  refine AW.seq ?_
  refine AW.if (by simp -implicitDefEqProofs only [go_sem]; rfl) (fun ht12 => ?_) (fun ht12 => ?_)
  · have hlti : i < u.funcs.length := lt_dec ht12
    obtain ⟨f, hf⟩ := get_of_lt hlti
    have hfm := List.mem_of_getElem? hf
    refine AW.skip ?_
    show AW _ _ _ _ _
    refine AW.seq ?_
    refine AW.block ?_
    refine AW.runs [] (by simp -implicitDefEqProofs only [go_sem, ht12, hf]; rfl) (by trivial) ?_
    have hyb : (min i u.funcs.length + 1) * 88 ≤ 140737488355328 := by have := hu.funcs; omega
    have htk : (u.funcs.take i).map G ++ [[AV.str (dceFn f).name, AV.int .i64 (dceFn f).params, AV.bool (dceFn f).result, AV.fz ((dceFn f).vars.map varRow), AV.fz ((dceFn f).blocks.map blockRow), AV.int .i64 (dceFn f).size]] = (u.funcs.take (i + 1)).map G := by rw [take_map G hf, hG]; rfl
    refine AW.has (n := 24) [(2, .box (g0 + 1) [.nil, .int .i64 0, .nil]), (3, .box (g0 + 2) [.own y 6 ((u.funcs.take i).map G), .int .i64 u.main, .fz (u.points.map pointRow)]), (5, .box g1 (fnRow f)), (9, .fz (u.funcs.map fnRow)), (10, .int .i64 u.funcs.length), (11, .int .i64 i)] (⟨by simp -implicitDefEqProofs only [go_sem], by simp -implicitDefEqProofs only [go_sem, ht12, hf, hyb, htk]; try simp [ht12, hf, hyb, htk]⟩) (fun g2 => ?_)
    refine AW.drw2 [0, 1, 2, 3] [4, 5, 6, 7] [[], [0], [], [2], [2, 3], [0, 1, 2, 3, 4], [0, 1, 2, 3, 4, 5], [0, 1, 2, 3, 4, 5, 6]] [15, 16, 17, 18] [?v0_0, ?v0_1, ?v0_2, ?v0_3] [([(2, .box (g0 + 1) [.nil, .int .i64 0, .nil]), (3, .box (g0 + 2) [.own y 6 ((u.funcs.take i).map G), .int .i64 u.main, .fz (u.points.map pointRow)]), (5, .box g1 (fnRow f)), (9, .fz (u.funcs.map fnRow)), (10, .int .i64 u.funcs.length), (11, .int .i64 i)], g2), ([(2, .box (g0 + 1) [.nil, .int .i64 0, .nil]), (3, .box (g0 + 2) [.own y 6 ((u.funcs.take i).map G), .int .i64 u.main, .fz (u.points.map pointRow)]), (5, .box g1 (fnRow f)), (9, .fz (u.funcs.map fnRow)), (10, .int .i64 u.funcs.length), (11, .int .i64 i), (19, AV.own g2 6 [[AV.str (dceFn f).name, AV.int .i64 (dceFn f).params, AV.bool (dceFn f).result, AV.fz ((dceFn f).vars.map varRow), AV.fz ((dceFn f).blocks.map blockRow), AV.int .i64 (dceFn f).size]])], g2 + 1), ([(2, .box (g0 + 1) [.nil, .int .i64 0, .nil]), (3, AV.box (g0 + 2) [.undef, .int .i64 u.main, .fz (u.points.map pointRow)]), (5, .box g1 (fnRow f)), (9, .fz (u.funcs.map fnRow)), (10, .int .i64 u.funcs.length), (11, .int .i64 i), (20, AV.own (g2 + 1) 6 ((u.funcs.take (i + 1)).map G))], g2 + 2), ([(2, .box (g0 + 1) [.nil, .int .i64 0, .nil]), (3, AV.box (g0 + 2) [.undef, .int .i64 u.main, .fz (u.points.map pointRow)]), (5, .box g1 (fnRow f)), (9, .fz (u.funcs.map fnRow)), (10, .int .i64 u.funcs.length), (11, .int .i64 i), (20, AV.own (g2 + 1) 6 ((u.funcs.take (i + 1)).map G)), (21, AV.adr (3, []) (g0 + 2) 0 0 0)], g2 + 2), ([(2, .box (g0 + 1) [.nil, .int .i64 0, .nil]), (3, AV.box (g0 + 2) [.own (g2 + 1) 6 ((u.funcs.take (i + 1)).map G), .int .i64 u.main, .fz (u.points.map pointRow)]), (5, .box g1 (fnRow f)), (9, .fz (u.funcs.map fnRow)), (10, .int .i64 u.funcs.length), (11, .int .i64 i)], g2 + 2)] f_mix (by decide) (by rfl) (by rfl) (by rfl) [(0, 0), (0, 1), (0, 2), (0, 3), (1, 0), (1, 1)] (by rfl) ?_ ?_ ?_
    rotate_left 4
    · refine fa_cons ?_ ?_
      · show HeadAt Try.prog _ ((Fr.of [(2, .box (g0 + 1) [.nil, .int .i64 0, .nil]), (3, .box (g0 + 2) [.own y 6 ((u.funcs.take i).map G), .int .i64 u.main, .fz (u.points.map pointRow)]), (5, .box g1 (fnRow f)), (9, .fz (u.funcs.map fnRow)), (10, .int .i64 u.funcs.length), (11, .int .i64 i)] (g2) 24).see [15, 16, 17, 18] [?v0_0, ?v0_1, ?v0_2, ?v0_3] []) 0 ?v0_0
        exact headX rfl rfl (by simp -implicitDefEqProofs only [go_sem, ht12, hf, hyb, htk]; rfl)
      refine fa_cons ?_ ?_
      · show HeadAt Try.prog _ ((Fr.of [(2, .box (g0 + 1) [.nil, .int .i64 0, .nil]), (3, .box (g0 + 2) [.own y 6 ((u.funcs.take i).map G), .int .i64 u.main, .fz (u.points.map pointRow)]), (5, .box g1 (fnRow f)), (9, .fz (u.funcs.map fnRow)), (10, .int .i64 u.funcs.length), (11, .int .i64 i)] (g2) 24).see [15, 16, 17, 18] [?v0_0, ?v0_1, ?v0_2, ?v0_3] [0]) 1 ?v0_1
        exact headX rfl rfl (by simp -implicitDefEqProofs only [go_sem, ht12, hf, hyb, htk]; rfl)
      refine fa_cons ?_ ?_
      · show HeadAt Try.prog _ ((Fr.of [(2, .box (g0 + 1) [.nil, .int .i64 0, .nil]), (3, .box (g0 + 2) [.own y 6 ((u.funcs.take i).map G), .int .i64 u.main, .fz (u.points.map pointRow)]), (5, .box g1 (fnRow f)), (9, .fz (u.funcs.map fnRow)), (10, .int .i64 u.funcs.length), (11, .int .i64 i)] (g2) 24).see [15, 16, 17, 18] [?v0_0, ?v0_1, ?v0_2, ?v0_3] []) 2 ?v0_2
        exact headX rfl rfl (by simp -implicitDefEqProofs only [go_sem, ht12, hf, hyb, htk]; rfl)
      refine fa_cons ?_ ?_
      · show HeadAt Try.prog _ ((Fr.of [(2, .box (g0 + 1) [.nil, .int .i64 0, .nil]), (3, .box (g0 + 2) [.own y 6 ((u.funcs.take i).map G), .int .i64 u.main, .fz (u.points.map pointRow)]), (5, .box g1 (fnRow f)), (9, .fz (u.funcs.map fnRow)), (10, .int .i64 u.funcs.length), (11, .int .i64 i)] (g2) 24).see [15, 16, 17, 18] [?v0_0, ?v0_1, ?v0_2, ?v0_3] [2]) 3 (.agg (fnRow (dceFn f)))
        exact headC rfl rfl rfl (by simp -implicitDefEqProofs only [go_sem, ht12, hf, hyb, htk] <;> rfl) ((fun56 f f.size.toNat (hd.fn f hfm).1 (hd.fn f hfm).2).obf)
      refine fa_cons ?_ ?_
      · show HeadAt Try.prog _ ((Fr.of [(2, .box (g0 + 1) [.nil, .int .i64 0, .nil]), (3, .box (g0 + 2) [.own y 6 ((u.funcs.take i).map G), .int .i64 u.main, .fz (u.points.map pointRow)]), (5, .box g1 (fnRow f)), (9, .fz (u.funcs.map fnRow)), (10, .int .i64 u.funcs.length), (11, .int .i64 i), (19, AV.own g2 6 [[AV.str (dceFn f).name, AV.int .i64 (dceFn f).params, AV.bool (dceFn f).result, AV.fz ((dceFn f).vars.map varRow), AV.fz ((dceFn f).blocks.map blockRow), AV.int .i64 (dceFn f).size]])] (g2 + 1) 24).see [15, 16, 17, 18] [?v0_0, ?v0_1, ?v0_2, ?v0_3] []) 0 ?v0_0
        exact headX rfl rfl (by simp -implicitDefEqProofs only [go_sem, ht12, hf, hyb, htk])
      refine fa_cons ?_ ?_
      · show HeadAt Try.prog _ ((Fr.of [(2, .box (g0 + 1) [.nil, .int .i64 0, .nil]), (3, .box (g0 + 2) [.own y 6 ((u.funcs.take i).map G), .int .i64 u.main, .fz (u.points.map pointRow)]), (5, .box g1 (fnRow f)), (9, .fz (u.funcs.map fnRow)), (10, .int .i64 u.funcs.length), (11, .int .i64 i), (19, AV.own g2 6 [[AV.str (dceFn f).name, AV.int .i64 (dceFn f).params, AV.bool (dceFn f).result, AV.fz ((dceFn f).vars.map varRow), AV.fz ((dceFn f).blocks.map blockRow), AV.int .i64 (dceFn f).size]])] (g2 + 1) 24).see [15, 16, 17, 18] [?v0_0, ?v0_1, ?v0_2, ?v0_3] [0]) 1 ?v0_1
        exact headX rfl rfl (by simp -implicitDefEqProofs only [go_sem, ht12, hf, hyb, htk])
      exact fa_nil
    · refine fa_cons ?_ ?_
      · show ChainAt Try.prog K _ [15, 16, 17, 18] (Fr.of [(2, .box (g0 + 1) [.nil, .int .i64 0, .nil]), (3, .box (g0 + 2) [.own y 6 ((u.funcs.take i).map G), .int .i64 u.main, .fz (u.points.map pointRow)]), (5, .box g1 (fnRow f)), (9, .fz (u.funcs.map fnRow)), (10, .int .i64 u.funcs.length), (11, .int .i64 i)] (g2) 24) (Fr.of [(2, .box (g0 + 1) [.nil, .int .i64 0, .nil]), (3, .box (g0 + 2) [.own y 6 ((u.funcs.take i).map G), .int .i64 u.main, .fz (u.points.map pointRow)]), (5, .box g1 (fnRow f)), (9, .fz (u.funcs.map fnRow)), (10, .int .i64 u.funcs.length), (11, .int .i64 i), (19, AV.own g2 6 [[AV.str (dceFn f).name, AV.int .i64 (dceFn f).params, AV.bool (dceFn f).result, AV.fz ((dceFn f).vars.map varRow), AV.fz ((dceFn f).blocks.map blockRow), AV.int .i64 (dceFn f).size]])] (g2 + 1) 24) 4 [(2, ?v0_2), (3, ?v0_3)] 4
        refine chainX rfl rfl (fun xs hx hq => ?_)
        simp only [fa_c, fa_n, and_true] at hq
        refine ⟨_, by simp -implicitDefEqProofs only [go_sem, hq, ht12, hf, hyb, htk]; rfl, by simp -implicitDefEqProofs only [go_sem], by simp -implicitDefEqProofs only [go_sem], by simp -implicitDefEqProofs only [go_sem, hq, ht12, hf, hyb, htk], by simp -implicitDefEqProofs only [go_sem, fa_c, fa_n, and_true]⟩
      refine fa_cons ?_ ?_
      · show ChainAt Try.prog K _ [15, 16, 17, 18] (Fr.of [(2, .box (g0 + 1) [.nil, .int .i64 0, .nil]), (3, .box (g0 + 2) [.own y 6 ((u.funcs.take i).map G), .int .i64 u.main, .fz (u.points.map pointRow)]), (5, .box g1 (fnRow f)), (9, .fz (u.funcs.map fnRow)), (10, .int .i64 u.funcs.length), (11, .int .i64 i), (19, AV.own g2 6 [[AV.str (dceFn f).name, AV.int .i64 (dceFn f).params, AV.bool (dceFn f).result, AV.fz ((dceFn f).vars.map varRow), AV.fz ((dceFn f).blocks.map blockRow), AV.int .i64 (dceFn f).size]])] (g2 + 1) 24) (Fr.of [(2, .box (g0 + 1) [.nil, .int .i64 0, .nil]), (3, AV.box (g0 + 2) [.undef, .int .i64 u.main, .fz (u.points.map pointRow)]), (5, .box g1 (fnRow f)), (9, .fz (u.funcs.map fnRow)), (10, .int .i64 u.funcs.length), (11, .int .i64 i), (20, AV.own (g2 + 1) 6 ((u.funcs.take (i + 1)).map G))] (g2 + 2) 24) 5 [(0, ?v0_0), (1, ?v0_1), (2, ?v0_2), (3, ?v0_3)] 4
        refine chainX rfl rfl (fun xs hx hq => ?_)
        simp only [fa_c, fa_n, and_true] at hq
        refine ⟨_, by simp -implicitDefEqProofs only [go_sem, hq, ht12, hf, hyb, htk]; rfl, by simp -implicitDefEqProofs only [go_sem], by simp -implicitDefEqProofs only [go_sem], by simp -implicitDefEqProofs only [go_sem, hq, ht12, hf, hyb, htk], by simp -implicitDefEqProofs only [go_sem, fa_c, fa_n, and_true]⟩
      refine fa_cons ?_ ?_
      · show ChainAt Try.prog K _ [15, 16, 17, 18] (Fr.of [(2, .box (g0 + 1) [.nil, .int .i64 0, .nil]), (3, AV.box (g0 + 2) [.undef, .int .i64 u.main, .fz (u.points.map pointRow)]), (5, .box g1 (fnRow f)), (9, .fz (u.funcs.map fnRow)), (10, .int .i64 u.funcs.length), (11, .int .i64 i), (20, AV.own (g2 + 1) 6 ((u.funcs.take (i + 1)).map G))] (g2 + 2) 24) (Fr.of [(2, .box (g0 + 1) [.nil, .int .i64 0, .nil]), (3, AV.box (g0 + 2) [.undef, .int .i64 u.main, .fz (u.points.map pointRow)]), (5, .box g1 (fnRow f)), (9, .fz (u.funcs.map fnRow)), (10, .int .i64 u.funcs.length), (11, .int .i64 i), (20, AV.own (g2 + 1) 6 ((u.funcs.take (i + 1)).map G)), (21, AV.adr (3, []) (g0 + 2) 0 0 0)] (g2 + 2) 24) 6 [(0, ?v0_0), (1, ?v0_1), (2, ?v0_2), (3, ?v0_3)] 4
        refine chainX rfl rfl (fun xs hx hq => ?_)
        simp only [fa_c, fa_n, and_true] at hq
        refine ⟨_, by simp -implicitDefEqProofs only [go_sem, hq, ht12, hf, hyb, htk]; rfl, by simp -implicitDefEqProofs only [go_sem], by simp -implicitDefEqProofs only [go_sem], by simp -implicitDefEqProofs only [go_sem, hq, ht12, hf, hyb, htk], by simp -implicitDefEqProofs only [go_sem, fa_c, fa_n, and_true]⟩
      refine fa_cons ?_ ?_
      · show ChainAt Try.prog K _ [15, 16, 17, 18] (Fr.of [(2, .box (g0 + 1) [.nil, .int .i64 0, .nil]), (3, AV.box (g0 + 2) [.undef, .int .i64 u.main, .fz (u.points.map pointRow)]), (5, .box g1 (fnRow f)), (9, .fz (u.funcs.map fnRow)), (10, .int .i64 u.funcs.length), (11, .int .i64 i), (20, AV.own (g2 + 1) 6 ((u.funcs.take (i + 1)).map G)), (21, AV.adr (3, []) (g0 + 2) 0 0 0)] (g2 + 2) 24) (Fr.of [(2, .box (g0 + 1) [.nil, .int .i64 0, .nil]), (3, AV.box (g0 + 2) [.own (g2 + 1) 6 ((u.funcs.take (i + 1)).map G), .int .i64 u.main, .fz (u.points.map pointRow)]), (5, .box g1 (fnRow f)), (9, .fz (u.funcs.map fnRow)), (10, .int .i64 u.funcs.length), (11, .int .i64 i)] (g2 + 2) 24) 7 [(0, ?v0_0), (1, ?v0_1), (2, ?v0_2), (3, ?v0_3)] 4
        refine chainX rfl rfl (fun xs hx hq => ?_)
        simp only [fa_c, fa_n, and_true] at hq
        refine ⟨_, by simp -implicitDefEqProofs only [go_sem, hq, ht12, hf, hyb, htk]; rfl, by simp -implicitDefEqProofs only [go_sem], by simp -implicitDefEqProofs only [go_sem], by simp -implicitDefEqProofs only [go_sem, hq, ht12, hf, hyb, htk], by simp -implicitDefEqProofs only [go_sem, fa_c, fa_n, and_true]⟩
      exact fa_nil
    show AW _ _ _ _ _
    refine AW.run [] (by simp -implicitDefEqProofs only [go_sem, ht12, hf, hyb, htk]; rfl) (by trivial) ?_
    exact ⟨hlti, (g2 + 1), trivial, ⟨by simp -implicitDefEqProofs only [go_sem], by simp -implicitDefEqProofs only [go_sem, ht12, hf, hyb, htk, step_int i (Nat.lt_of_lt_of_le hlti (by have := hu.funcs; omega))]; try simp [ht12, hf, hyb, htk, step_int i (Nat.lt_of_lt_of_le hlti (by have := hu.funcs; omega))]⟩⟩
  · have hie : u.funcs.length ≤ i := ge_dec ht12
    have hta : u.funcs.take i = u.funcs := List.take_of_length_le hie
    refine AW.exit ?_
    show AW _ _ _ _ _
    refine AW.runs [] (by simp -implicitDefEqProofs only [go_sem, ht12, hta]; rfl) (by trivial) ?_
    exact AW.ret ⟨.inl rfl, _, (show outR Try.prog _ [.cell 2 25] = some _ from by simp -implicitDefEqProofs only [go_sem]; rfl), by have hfr : (u.funcs.map G).map (fun r => r.map AV.frz) = u.funcs.map G := (by rw [hG, List.map_map]; exact List.map_congr_left fun b _ => frz_fnRow _); exact Eq.trans (b := .agg [.fz (u.funcs.map G), .int .i64 u.main, .fz (u.points.map pointRow)]) (by simp -implicitDefEqProofs only [go_sem, hfr, hta]) (by rw [hG]; show _ = AV.agg [AV.fz ((u.funcs.map dceFn).map fnRow), _, _]; rw [List.map_map]; rfl)⟩
end Go.Proofs.Ytgoajlgkbcongaa.Vm
end
section
set_option linter.unusedVariables false
set_option linter.unusedSimpArgs false
set_option maxRecDepth 100000
set_option maxHeartbeats 4000000
namespace Go.Proofs.Ytgoajlgkbcongaa.Vm
open Go Go.RowKit Go.Proofs
def wFn (l : List Ins) (vs : List Var) : Fn := ⟨⟨#[109, 97, 105, 110]⟩, 0, false, vs, [⟨l, ⟨3, -1, 0, 0⟩⟩], 5⟩
def wUnt (l : List Ins) (vs : List Var) : Unt := ⟨[wFn l vs], 0, []⟩
def wNum (d n : Int) : Ins := ⟨32, d, -1, -1, -1, n, []⟩
def wPut (a : Int) : Ins := ⟨44, -1, a, -1, -1, 0, []⟩
def wMrk (a : Int) : Ins := ⟨46, -1, a, -1, 0, 0, []⟩
def wBin (o d a b : Int) : Ins := ⟨o, d, a, b, -1, 0, []⟩
def wX : Var := ⟨⟨#[120]⟩, ⟨1, 0, ByteArray.empty⟩, 1, []⟩
def works0 : Unt := wUnt [wNum 0 2, wNum 1 3, wBin 1 2 0 0, wMrk 2, wPut 1] [wX]
def works1 : Unt := wUnt [wNum 1 3, wMrk (-1), wPut 1] [wX]
theorem setCell_one3 (a b c d e f v : AV) : setCell [[a, b, c, d, e, f]] 0 3 v = [[a, b, c, v, e, f]] := rfl
attribute [go_sem] setCell_one3
theorem ob4 {P : Program} {a b c d : Ob} (h : a.ok P) (k : b.ok P) (l : c.ok P) (m : d.ok P) : obsOK P [a, b, c, d] := ⟨h, k, l, m, trivial⟩
theorem works_modest (l : List Ins) (h : l.length ≤ 100) (ha : ∀ x ∈ l, x.args = []) : Modest (wUnt l [wX]) where
  funcs := by simp [wUnt]
  points := by simp [wUnt]
  scopes := by simp [wUnt]
  vars := by simp [wUnt, wFn]
  blocks := by simp [wUnt, wFn]
  ins := by simp [wUnt, wFn, insTo]; omega
  args := by
    intro f hf b hb x hx
    simp [wUnt] at hf; subst hf
    simp [wFn] at hb; subst hb
    rw [ha x hx]; simp
theorem fun28 (d n : Int) : Fun Try.prog 28 [.int .i64 d, .int .i64 n] (fun r => r.frz = .agg (insRow (wNum d n))) := by
  refine Fun.ok Try.func28 rfl (by rfl) 8 Try.ntmps28 (by rfl) fun hok K g0 => ?_
  simp -implicitDefEqProofs only [go_sem]
  refine AW.runs [] (by simp -implicitDefEqProofs only [go_sem]; rfl) (by trivial) ?_
  refine AW.runs [] (by simp -implicitDefEqProofs only [go_sem]; rfl) (by trivial) ?_
  exact AW.ret ⟨.inl rfl, _, (show outR Try.prog _ [.cell 4 47] = some _ from by simp -implicitDefEqProofs only [go_sem]; rfl), by simp -implicitDefEqProofs only [go_sem]; rfl⟩
theorem fun29 (o d a b : Int) : Fun Try.prog 29 [.int .u8 o, .int .i64 d, .int .i64 a, .int .i64 b] (fun r => r.frz = .agg (insRow (wBin o d a b))) := by
  refine Fun.ok Try.func29 rfl (by rfl) 14 Try.ntmps29 (by rfl) fun hok K g0 => ?_
  simp -implicitDefEqProofs only [go_sem]
  refine AW.runs [] (by simp -implicitDefEqProofs only [go_sem]; rfl) (by trivial) ?_
  refine AW.runs [] (by simp -implicitDefEqProofs only [go_sem]; rfl) (by trivial) ?_
  exact AW.ret ⟨.inl rfl, _, (show outR Try.prog _ [.cell 8 47] = some _ from by simp -implicitDefEqProofs only [go_sem]; rfl), by simp -implicitDefEqProofs only [go_sem]; rfl⟩
theorem fun30 (a : Int) : Fun Try.prog 30 [.int .i64 a] (fun r => r.frz = .agg (insRow (wPut a))) := by
  refine Fun.ok Try.func30 rfl (by rfl) 5 Try.ntmps30 (by rfl) fun hok K g0 => ?_
  simp -implicitDefEqProofs only [go_sem]
  refine AW.runs [] (by simp -implicitDefEqProofs only [go_sem]; rfl) (by trivial) ?_
  refine AW.runs [] (by simp -implicitDefEqProofs only [go_sem]; rfl) (by trivial) ?_
  exact AW.ret ⟨.inl rfl, _, (show outR Try.prog _ [.cell 2 47] = some _ from by simp -implicitDefEqProofs only [go_sem]; rfl), by simp -implicitDefEqProofs only [go_sem]; rfl⟩
theorem fun31 (l : List Ins) : Fun Try.prog 31 [.fz (l.map insRow)] (fun r => ∃ i j, r = .agg [.own i 6 [[.str ⟨#[109, 97, 105, 110]⟩, .int .i64 0, .bool false, .nil, .own j 5 [[.fz (l.map insRow), .int .u8 3, .int .i64 (-1), .int .i64 0, .int .i64 0]], .int .i64 5]], .int .i64 0, .nil]) := by
  refine Fun.ok Try.func31 rfl (by rfl) 12 Try.ntmps31 (by rfl) fun hok K g0 => ?_
  simp -implicitDefEqProofs only [go_sem]
  refine AW.runs [] (by simp -implicitDefEqProofs only [go_sem]; rfl) (by trivial) ?_
  refine AW.runs [] (by simp -implicitDefEqProofs only [go_sem]; rfl) (by trivial) ?_
  refine AW.runs [] (by simp -implicitDefEqProofs only [go_sem]; rfl) (by trivial) ?_
  exact AW.ret ⟨.inl rfl, _, (show outR Try.prog _ [.cell 2 25] = some _ from by simp -implicitDefEqProofs only [go_sem]; rfl), ⟨_, _, rfl⟩⟩
theorem fun17 (hd : DceU works0) (h1 : dceUnit works0 = works1) (hs : SoundP works1) : Fun Try.prog 17 [] (fun r => r = .bool true) := by
  refine Fun.ok Try.func17 rfl (by rfl) 84 Try.ntmps17 (by rfl) fun hok K g0 => ?_
  simp -implicitDefEqProofs only [go_sem]
  have k1 : (((1 : Nat) : Int) == 0) = false := rfl
  have k3 : (((3 : Nat) : Int) == 3) = true := rfl
  have e1 : dec (SoundP works1) = true := dec_true.2 hs
  refine AW.runs [] (by simp -implicitDefEqProofs only [go_sem, k1, k3]; rfl) (by trivial) ?_
  refine AW.seq (AW.region ?_)
  refine LW.split 6 [.agg (insRow (wNum 0 2)), .agg (insRow (wNum 1 3)), .agg (insRow (wBin 1 2 0 0)), .agg (insRow (wPut 1))] (by simp -implicitDefEqProofs only [go_sem]; rfl) (ob4 ((fun28 0 2).obf) ((fun28 1 3).obf) ((fun29 1 2 0 0).obf) ((fun30 1).obf)) ?_
  refine LW.ice (9, []) (by simp -implicitDefEqProofs only [go_sem]; rfl) ?_
  refine LW.callE rfl rfl (by simp -implicitDefEqProofs only [go_sem]; rfl) (fun31 [wNum 0 2, wNum 1 3, wBin 1 2 0 0, wMrk 2, wPut 1]) (dst_lt (by simp -implicitDefEqProofs only [go_sem])) (fun v g9 hR hg => ?_)
  obtain ⟨ia, ja, rfl⟩ := hR
  refine ⟨_, by simp -implicitDefEqProofs only [go_sem]; rfl, ?_⟩
  refine LW.split 9 [] (by simp -implicitDefEqProofs only [go_sem]; rfl) (by trivial) ?_
  refine LW.nil ?_
  show AW _ _ _ _ _
  refine AW.runs [] (by simp -implicitDefEqProofs only [go_sem, k1, k3]; rfl) (by trivial) ?_
  refine AW.ice (1, [(0, 0)]) (by simp -implicitDefEqProofs only [go_sem]; rfl) ?_
  refine AW.runs [.agg [.fz [[.str ⟨#[109, 97, 105, 110]⟩, .int .i64 0, .bool false, .fz [[.str ⟨#[120]⟩, .int .u8 1, .int .i64 0, .str ByteArray.empty, .int .i64 1, .fz []]], .fz [[.fz [[.int .u8 (32), .int .i64 (1), .int .i64 (-1), .int .i64 (-1), .int .i64 (-1), .int .i64 (3), .fz []], [.int .u8 (46), .int .i64 (-1), .int .i64 (-1), .int .i64 (-1), .int .i64 (0), .int .i64 (0), .fz []], [.int .u8 (44), .int .i64 (-1), .int .i64 (1), .int .i64 (-1), .int .i64 (-1), .int .i64 (0), .fz []]], .int .u8 3, .int .i64 (-1), .int .i64 0, .int .i64 0]], .int .i64 5]], .int .i64 0, .fz []]] (by simp -implicitDefEqProofs only [go_sem, k1, k3]; rfl) (ob1 (by have h := (fun19 works0 (works_modest _ (by simp) (by simp [wNum, wBin, wMrk, wPut])) hd).obf; rw [h1] at h; exact h)) ?_
  refine AW.seq ?_
  refine AW.runs [.bool true] (by simp -implicitDefEqProofs only [go_sem, k1, k3]; rfl) (ob1 (by have := (fun16 works1 (works_modest _ (by simp) (by simp [wNum, wBin, wMrk, wPut]))).obb; rw [e1] at this; exact this)) ?_
  refine AW.if (by simp -implicitDefEqProofs only [go_sem, k1, k3]; rfl) (fun ht37 => ?_) (fun ht37 => ?_)
  · refine AW.runs [] (by simp -implicitDefEqProofs only [go_sem, k1, k3, ht37]; rfl) (by trivial) ?_
    exact AW.ret ⟨.inl rfl, _, rfl, by simp -implicitDefEqProofs only [go_sem, k1, k3, ht37]⟩
  · refine AW.skip ?_
    show AW _ _ _ _ _
    refine AW.runs [] (by simp -implicitDefEqProofs only [go_sem, k1, k3, ht37]; rfl) (by trivial) ?_
    refine AW.runs [] (by simp -implicitDefEqProofs only [go_sem, k1, k3, ht37]; rfl) (by trivial) ?_
    exact AW.ret ⟨.inl rfl, _, rfl, by simp -implicitDefEqProofs only [go_sem, k1, k3, ht37]⟩
end Go.Proofs.Ytgoajlgkbcongaa.Vm
end
section
set_option linter.unusedVariables false
set_option linter.unusedSimpArgs false
set_option maxRecDepth 100000
namespace Go.Proofs.Ytgoajlgkbcongaa.Vm
open Go Go.RowKit Go.Proofs
theorem forall3 {α : Type} {p : α → Prop} {a b c : α} (h1 : p a) (h2 : p b) (h3 : p c) : ∀ x ∈ [a, b, c], p x := by
  intro x hx
  simp only [List.mem_cons, List.not_mem_nil, or_false] at hx
  rcases hx with rfl | rfl | rfl <;> assumption
theorem forall5 {α : Type} {p : α → Prop} {a b c d e : α} (h1 : p a) (h2 : p b) (h3 : p c) (h4 : p d) (h5 : p e) : ∀ x ∈ [a, b, c, d, e], p x := by
  intro x hx
  simp only [List.mem_cons, List.not_mem_nil, or_false] at hx
  rcases hx with rfl | rfl | rfl | rfl | rfl <;> assumption
theorem forall1 {α : Type} {p : α → Prop} {a : α} (h1 : p a) : ∀ x ∈ [a], p x := by
  intro x hx
  simp only [List.mem_cons, List.not_mem_nil, or_false] at hx
  subst hx; exact h1
def w0 : Fn := wFn [wNum 0 2, wNum 1 3, wBin 1 2 0 0, wMrk 2, wPut 1] [wX]
def w1 : Fn := wFn [wNum 1 3, wMrk (-1), wPut 1] [wX]
theorem w0_ok : DceOk w0 5 where
  size := rfl
  small := by decide
  blocks := by decide
  many := by decide
  args := forall1 (forall5 (by decide) (by decide) (by decide) (by decide) (by decide))
  dst := forall1 (forall5 (by decide) (by decide) (by decide) (by decide) (by decide))
  looks := forall1 (forall5 (by decide) (by decide) (by decide) (by decide) (by decide))
  term := forall1 (by decide)
theorem works_dceU : DceU works0 where
  fn := forall1 ⟨w0_ok, forall1 (forall5 (by decide) (by decide) (by decide) (by decide) (by decide))⟩
theorem w0_roots : roots w0 = [1, -1] := by decide
theorem w0_by : byL (allIns w0) 1 = [] := by decide
theorem w0_needed (k : Nat) : NeededP w0 k ↔ k = 1 := by
  constructor
  · rintro (h | ⟨x, hx, h1, h2⟩)
    · generalize hr : roots w0 = r at h
      rw [w0_roots] at hr
      induction h with
      | root h => subst hr; simp at h; omega
      | step h hv ih => subst ih; rw [w0_by] at hv; simp at hv
    · exact absurd h1 (by
        have : ∀ x ∈ allIns w0, stayHere w0.size x = false := forall5 (by decide) (by decide) (by decide) (by decide) (by decide)
        rw [this x hx]; decide)
  · rintro rfl
    exact .inl (.root (by rw [w0_roots]; decide))
theorem w0_need : needOf w0 5 = [false, true, false, false, false] := by
  have h : ∀ k, dec (NeededP w0 k) = decide (k = 1) := fun k => by
    by_cases hk : k = 1
    · rw [dec_true.2 ((w0_needed k).2 hk)]; simp [hk]
    · rw [dec_false.2 (fun c => hk ((w0_needed k).1 c))]; simp [hk]
  unfold needOf
  rw [List.map_congr_left (fun k _ => h k)]
  rfl
theorem works_dce : dceUnit works0 = works1 := by
  have h : dceFn w0 = w1 := by
    show dceFnW (needOf w0 5) w0 = w1
    rw [w0_need]; rfl
  show Unt.mk [dceFn w0] 0 [] = ⟨[w1], 0, []⟩
  rw [h]
theorem w1_made : madeOf w1 1 = some (0, 0) := madeOf_some.2 {
  at_ := ⟨_, _, rfl, rfl, by decide⟩
  before := fun b' blk h => absurd h (by omega)
  here := fun blk h x hx => by simp at hx }
theorem get3 {α : Type} {p : Nat → α → Prop} {a b c : α} (h1 : p 0 a) (h2 : p 1 b) (h3 : p 2 c) : ∀ (i : Nat) (x : α), [a, b, c][i]? = some x → p i x := by
  intro i x hx
  match i, hx with
  | 0, hx => cases hx; exact h1
  | 1, hx => cases hx; exact h2
  | 2, hx => cases hx; exact h3
  | n + 3, hx => simp at hx
theorem get1 {α : Type} {p : Nat → α → Prop} {a : α} (h1 : p 0 a) : ∀ (i : Nat) (x : α), [a][i]? = some x → p i x := by
  intro i x hx
  match i, hx with
  | 0, hx => cases hx; exact h1
  | n + 1, hx => simp at hx
theorem works_sound : SoundP works1 where
  may := {
    main := by decide
    points := by intro p hp; simp [works1, wUnt] at hp
    funcs := get1 {
      words := forall1 (by decide)
      fn := {
        head := by decide
        terms := forall1 ⟨by decide, by decide⟩
        many := by decide
        ins := get1 (get3 ⟨by decide, by decide, by decide⟩ ⟨by decide, by decide, by decide⟩ ⟨by decide, by decide, by decide⟩) } } }
  fn := get1 {
    blks := get1 {
      reach := by decide
      ins := get3 ⟨by decide, fun k y h => by simp [usesOf, wNum, one62, all62] at h, fun _ => w1_made⟩ ⟨by decide, fun k y h => by simp [usesOf, wMrk, one62, all62] at h, fun h => absurd h (by decide)⟩
        ⟨by decide, by
          have : usesOf (wPut 1) = [1] := by decide
          rw [this]
          exact get1 (by show thereB w1 (tableOf (termsOf w1)) 1 0 2 = true; unfold thereB; rw [w1_made]; rfl), fun h => absurd h (by decide)⟩
      term := by decide }
    marks := by decide }
theorem worksT : Fun Try.prog 17 [] (fun r => r = .bool true) := fun17 works_dceU works_dce works_sound
end Go.Proofs.Ytgoajlgkbcongaa.Vm
end
section
set_option linter.unusedVariables false
set_option linter.unusedSimpArgs false
set_option maxRecDepth 100000
set_option maxHeartbeats 4000000
namespace Go.Proofs.Ytgoajlgkbcongaa.Vm
open Go Go.RowKit Go.Proofs
/-- What the laws of dce need to know of a sound unit. -/
structure DceLaw (u : Unt) : Prop where
  ok : DceU u
  may : MayP (dceUnit u)
  modest : Modest (dceUnit u)
noncomputable def goB (u : Unt) : Bool := if smallOf u then dec (SoundP u) else false
theorem fun4 (u : Unt) (hu : Modest u) (hc : cnt u ≤ 1099511627776) (hl : SoundP u → DceLaw u) : Fun Try.prog 4 [.agg (untRow u)] (fun r => r = .bool true) := by
  refine Fun.ok Try.func4 rfl (by rfl) 28 Try.ntmps4 (by rfl) fun hok K g0 => ?_
  simp -implicitDefEqProofs only [go_sem]
  refine AW.runs [] (by simp -implicitDefEqProofs only [go_sem]; rfl) (by trivial) ?_
  refine AW.seq ?_
  refine AW.join [(1, .box g0 (untRow u)), (11, .bool (!goB u))] 28 ?_ (fun g1 => ?_)
  · cases c1 : smallOf u
    · refine AW.run [.bool (smallOf u)] (by simp -implicitDefEqProofs only [go_sem, c1]; rfl) (ob1 (by have h := (fun15 u hc).obb; (try simp only [insRow, c1] at h); exact h)) ?_
      exact ⟨by simp -implicitDefEqProofs only [go_sem], by simp -implicitDefEqProofs only [go_sem, c1, goB]; try simp [c1, goB]⟩
    · refine AW.run [.bool (smallOf u), .bool (dec (SoundP u))] (by simp -implicitDefEqProofs only [go_sem, c1]; rfl) (ob2 (by have h := (fun15 u hc).obb; (try simp only [insRow, c1] at h); exact h) ((fun16 u hu).obb)) ?_
      exact ⟨by simp -implicitDefEqProofs only [go_sem], by simp -implicitDefEqProofs only [go_sem, c1, goB]; try simp [c1, goB]⟩
  · refine AW.if (by simp -implicitDefEqProofs only [go_sem]; rfl) (fun ht11 => ?_) (fun ht11 => ?_)
    · refine AW.runs [.bool true] (by simp -implicitDefEqProofs only [go_sem, ht11]; rfl) (ob1 (worksT.obb)) ?_
      exact AW.ret ⟨.inl rfl, _, rfl, by simp -implicitDefEqProofs only [go_sem, ht11]⟩
    · have hgo : goB u = true := by simpa using ht11
      have hso : dec (SoundP u) = true := by unfold goB at hgo; revert hgo; cases smallOf u <;> simp
      replace hl := hl (dec_true.1 hso)
      refine AW.skip ?_
      show AW _ _ _ _ _
      refine AW.runs [.agg (untRow u), .agg (untRow (dceUnit u))] (by simp -implicitDefEqProofs only [go_sem, ht11]; rfl) (ob2 ((fun18 u hu).obf) ((fun19 u hu hl.ok).obf)) ?_
      refine AW.has (n := 28) [(1, .box g0 (untRow u)), (3, .box g1 (untRow (dceUnit u)))] (⟨by simp -implicitDefEqProofs only [go_sem], by simp -implicitDefEqProofs only [go_sem, ht11]; try simp [ht11]⟩) (fun g2 => ?_)
      refine AW.seq ?_
      refine AW.drw 7 [[], [0], [0, 1], [0, 1, 2], [0, 1, 2], [0, 1, 2, 4], [0, 1, 2, 4, 5], [0, 1, 2, 3, 4, 5, 6], [0, 1, 2, 3, 4, 5, 6, 7], [0, 1, 2, 3, 4, 5, 6, 7, 8], [0, 1, 2, 3, 4, 5, 6, 7, 8, 9], [0, 1, 2, 3, 4, 5, 6, 7, 8, 9, 10], [0, 1, 2, 3, 4, 5, 6, 7, 8, 9, 10, 11]] [16, 17, 18, 19, 20, 21, 22] [.bool true, .agg (untRow u), .agg (untRow (dceUnit u))] [.bool true, .bool true] f_mix (by decide) (by rfl) (by rfl) rfl rfl (by simp -implicitDefEqProofs only [go_sem, ht11]; rfl) (ob3 (by have h := (fun23 (dceUnit u) hl.modest).obb; rw [dec_true.2 hl.may] at h; exact h) ((fun18 u hu).obf) ((fun19 u hu hl.ok).obf)) (by simp -implicitDefEqProofs only [go_sem, ht11]; rfl) (ob2 ((fun20 (dceUnit u) hl.modest).obb) (worksT.obb)) ?_
      show AW _ _ _ _ _
      exact AW.ret ⟨.inl rfl, _, rfl, by simp -implicitDefEqProofs only [go_sem, ht11]⟩
end Go.Proofs.Ytgoajlgkbcongaa.Vm
end
section
set_option linter.unusedVariables false
set_option linter.unusedSimpArgs false
set_option maxRecDepth 100000
namespace Go.Proofs.Ytgoajlgkbcongaa.Vm
open Go Go.RowKit Go.Proofs
theorem bulk_one {H : Type} (d : DataW H) : 1 ≤ Rows.uptoBulk d := by
  cases d with
  | lit l => cases l <;> simp [Rows.uptoBulk]
  | nil => simp [Rows.uptoBulk]
  | ptr d => simp [Rows.uptoBulk]
  | slice elems spare => simp [Rows.uptoBulk]
  | agg parts => simp [Rows.uptoBulk]
  | iface t d => simp [Rows.uptoBulk]
  | map entries => simp [Rows.uptoBulk]
  | held h => simp [Rows.uptoBulk]
/-- Cells that hold a row that nobody writes. -/
def RowR (w : World) (cs : List Value) (r : List AV) : Prop :=
  cs.length = r.length ∧ ∀ (k : Nat) (v : AV) (c : Value), r[k]? = some v → cs[k]? = some c → FZ w (fun _ => False) v c ∧ c.oneCell' = true
theorem RowR.nil (w : World) : RowR w [] [] := ⟨rfl, fun k v c h => by simp at h⟩
theorem RowR.one {w : World} {v : AV} {c : Value} (h : FZ w (fun _ => False) v c) (ho : c.oneCell' = true) : RowR w [c] [v] := by
  refine ⟨rfl, fun k v' c' h1 h2 => ?_⟩
  cases k with
  | zero => cases h1; cases h2; exact ⟨h, ho⟩
  | succ k => simp at h1
theorem RowR.append {w : World} {a b : List Value} {r s : List AV} (h : RowR w a r) (k : RowR w b s) : RowR w (a ++ b) (r ++ s) := by
  refine ⟨by rw [List.length_append, List.length_append, h.1, k.1], fun j v c h1 h2 => ?_⟩
  by_cases hj : j < r.length
  · rw [List.getElem?_append_left hj] at h1
    rw [List.getElem?_append_left (by rw [h.1]; exact hj)] at h2
    exact h.2 j v c h1 h2
  · rw [List.getElem?_append_right (by omega)] at h1
    rw [List.getElem?_append_right (by rw [h.1]; omega), h.1] at h2
    exact k.2 _ v c h1 h2
theorem RowR.cat {w : World} {cs : List Value} {o n : Nat} {r s : List AV} (h : RowR w ((cs.drop o).take n) r) (k : RowR w (cs.drop (o + n)) s) : RowR w (cs.drop o) (r ++ s) := by
  have := h.append k
  rwa [← List.drop_drop, List.take_append_drop] at this
theorem RowR.done {w : World} {cs : List Value} {o : Nat} (h : cs.length = o) : RowR w (cs.drop o) [] := by
  rw [List.drop_eq_nil_of_le (by omega)]; exact RowR.nil w
section
variable {H : Type} {enc : TypeId × Value → H} {w : World} {base : Nat} {spare : Nat → Bool} {held : Bool}
/-- What is read at a type is typed data. -/
def Reads {H : Type} (enc : TypeId × Value → H) (w : World) (base : Nat) (spare : Nat → Bool) (held : Bool) (t : TypeId) {X : Type} (row : X → List AV) (wt : X → Nat) : Prop :=
  ∀ (fuel : Nat) (cs : List Value) (x : DataW H × List MemPlace), DataW.trod enc Try.prog w base spare held fuel t cs = some x → ∃ y : X, wt y ≤ Rows.uptoBulk x.1 ∧ RowR w cs (row y)
theorem reads_int {t : TypeId} {k : IntKind} (ht : Try.prog.underlying t = some (.int k)) : Reads enc w base spare held t (fun n : Int => [AV.int k n]) (fun _ => 1) := by
  intro fuel cs x h
  obtain ⟨n, rfl, rfl, _⟩ := DataW.trod_int ht h
  exact ⟨n, bulk_one _, .one (.int k n) rfl⟩
theorem reads_bool {t : TypeId} (ht : Try.prog.underlying t = some .bool) : Reads enc w base spare held t (fun n : Bool => [AV.bool n]) (fun _ => 1) := by
  intro fuel cs x h
  obtain ⟨n, rfl, rfl⟩ := DataW.trod_bool ht h
  exact ⟨n, bulk_one _, .one (.bool n) rfl⟩
theorem reads_str {t : TypeId} (ht : Try.prog.underlying t = some .string) : Reads enc w base spare held t (fun n : ByteArray => [AV.str n]) (fun _ => 1) := by
  intro fuel cs x h
  obtain ⟨n, rfl, rfl, _⟩ := DataW.trod_string ht h
  exact ⟨n, bulk_one _, .one (.str n) rfl⟩
theorem bulk_map {X : Type} {H : Type} (wt : X → Nat) (D : Nat → DataW H) (y : Nat → X) : ∀ (l : List Nat), (∀ i ∈ l, wt (y i) ≤ Rows.uptoBulk (D i)) → ((l.map y).map wt).sum ≤ Rows.uptoBulkAll (l.map D)
  | [], _ => by simp
  | i :: l, h => by
    have h1 := h i (by simp)
    have h2 := bulk_map wt D y l (fun j hj => h j (by simp [hj]))
    simp only [List.map_cons, List.sum_cons, Rows.uptoBulkAll]
    omega
theorem reads_slice {t e : TypeId} {X : Type} [Inhabited X] {row : X → List AV} {wt : X → Nat} {sz : Nat} (ht : Try.prog.underlying t = some (.slice e)) (hc : Try.prog.cellsOf e = sz) (hs : 0 < sz) (hr : ∀ y, (row y).length = sz)
    (he : Reads enc w base spare held e row wt) : Reads enc w base spare held t (fun l : List X => [AV.fz (l.map row)]) (fun l => (l.map wt).sum) := by
  intro fuel cs x h
  rcases Deep.open_slice ht h with ⟨rfl, rfl⟩ | ⟨a, len, cap, m, n, D, Pl, rfl, hb, hl, hm, hmm, rfl, hx⟩
  · exact ⟨[], by simp, .one (.fz [] none 0 0 sz (fun _ _ => .nilFunc) rfl (fun _ h => by simp at h) (Nat.le_refl _) (by omega) (fun h => absurd h (by omega)) (fun j k v h => by simp [cell] at h) (fun j k v h => by simp [cell] at h)) rfl⟩
  have hlm : len ≤ m := by rw [hmm]; split <;> omega
  obtain ⟨cf, hcf⟩ := Deep.choose_lt (α := List Value) (p := fun i c => w.cells? base (a.add (i * Try.prog.cellsOf e)) (Try.prog.cellsOf e) = some c ∧ DataW.trod enc Try.prog w base spare held n e c = some (D i, Pl i)) hx
  obtain ⟨y, hy⟩ := Deep.choose_lt (α := X) (p := fun i z => wt z ≤ Rows.uptoBulk (D i) ∧ RowR w (cf i) (row z)) (n := len) (fun i hi => he n _ _ (hcf i (by omega)).2)
  refine ⟨(List.range len).map y, ?_, ?_⟩
  · have := bulk_map wt D y (List.range len) (fun i hi => (hy i (List.mem_range.1 hi)).1)
    simp only [Rows.uptoBulk]; omega
  have hcell : ∀ j k v, cell (((List.range len).map y).map row) j k = some v → j < len ∧ k < sz ∧ (row (y j))[k]? = some v := by
    intro j k v h
    unfold cell at h
    rw [List.map_map, List.getElem?_map] at h
    by_cases hj : j < len
    · rw [List.getElem?_range hj] at h
      have h : (row (y j))[k]? = some v := h
      refine ⟨hj, ?_, h⟩
      rw [← hr (y j)]
      exact (List.getElem?_eq_some_iff.1 h).1
    · rw [List.getElem?_eq_none (by simp; omega)] at h; simp at h
  have hat : ∀ j k, j < len → k < sz → w.cell? ((a.add (j * sz)).add k) = (cf j)[k]? ∧ (cf j).length = sz := by
    intro j k hj hk
    obtain ⟨h1, _⟩ := hcf j (by omega)
    obtain ⟨_, h2, h3⟩ := World.cells?_some h1
    rw [hc] at h1 h2 h3
    exact ⟨h3 k hk, h2⟩
  have hspot : 0 < len → a.spot = none ∧ a.block < w.heap.size := by
    intro h0
    obtain ⟨h1, h2⟩ := hat 0 0 h0 hs
    have h3 : (a.add (0 * sz)).add 0 = a := by rw [Nat.zero_mul]; simp [Addr.add]
    rw [h3, List.getElem?_eq_getElem (by omega)] at h1
    refine ⟨?_, World.block_lt_of_cell? w _ h1⟩
    unfold World.cell? at h1
    split at h1
    · split at h1
      · exact absurd h1 (by simp)
      · rename_i h4; simpa using h4
    · exact absurd h1 (by simp)
  have hval : ∀ j k v, cell (((List.range len).map y).map row) j k = some v → ∃ c, (cf j)[k]? = some c ∧ FZ w (fun _ => False) v c ∧ c.oneCell' = true := by
    intro j k v h
    obtain ⟨hj, hk, hrow⟩ := hcell j k v h
    obtain ⟨_, h2⟩ := hat j k hj hk
    exact ⟨_, List.getElem?_eq_getElem (by omega), (hy j hj).2.2 k v _ hrow (List.getElem?_eq_getElem (by omega))⟩
  refine .one (.fz _ (some a) len cap sz (fun j k => ((cf j)[k]?).getD .nilFunc) (by simp) ?_ hl (Nat.le_trans hl (by have := hm; unfold maxLen at this; omega)) ?_ ?_ ?_) rfl
  · intro r hrm
    simp only [List.mem_map] at hrm
    obtain ⟨z, _, rfl⟩ := hrm
    exact hr z
  · intro h0
    obtain ⟨s1, s2⟩ := hspot h0
    refine ⟨a.block, a.off, by cases a; simp_all, s2, fun h => h, fun j k v h => ?_⟩
    obtain ⟨c, e1, _, _⟩ := hval j k v h
    obtain ⟨hj, hk, _⟩ := hcell j k v h
    have h5 := (hat j k hj hk).1
    rw [Deep.add_add] at h5
    rw [e1] at h5 ⊢
    rw [show (⟨a.block, a.off + (j * sz + k), none⟩ : Addr) = a.add (j * sz + k) from by cases a; simp only at s1; subst s1; unfold Addr.add; split <;> simp_all]
    exact h5
  · intro j k v h
    obtain ⟨c, e1, e2, _⟩ := hval j k v h
    rw [e1]; exact e2
  · intro j k v h
    obtain ⟨c, e1, _, e3⟩ := hval j k v h
    rw [e1]; exact e3
def szIns (x : Ins) : Nat := 1 + (x.args.map fun _ => 1).sum
def szBlock (b : Block) : Nat := 1 + (b.ins.map szIns).sum
def szFn (f : Fn) : Nat := 1 + (f.vars.map fun _ => 1).sum + (f.blocks.map szBlock).sum
def szPoint (p : Point) : Nat := 1 + (p.scope.map fun _ => 1).sum
def szUnt (u : Unt) : Nat := (u.funcs.map szFn).sum + (u.points.map szPoint).sum
instance : Inhabited Ins := ⟨⟨0, 0, 0, 0, 0, 0, []⟩⟩
instance : Inhabited Term := ⟨⟨0, 0, 0, 0⟩⟩
instance : Inhabited Block := ⟨⟨[], default⟩⟩
instance : Inhabited Typ := ⟨⟨0, 0, ByteArray.empty⟩⟩
instance : Inhabited Var := ⟨⟨ByteArray.empty, default, 0, []⟩⟩
instance : Inhabited Fn := ⟨⟨ByteArray.empty, 0, false, [], [], 0⟩⟩
instance : Inhabited Point := ⟨⟨0, 0, []⟩⟩
theorem reads_ints : Reads enc w base spare held 45 (fun l : List Int => [AV.fz (l.map intRow)]) (fun l => (l.map fun _ => 1).sum) :=
  reads_slice (sz := 1) Try.underlying45 (by kernel_rfl) (by omega) (fun _ => rfl) (reads_int Try.underlying3)
theorem reads_strs : Reads enc w base spare held 58 (fun l : List ByteArray => [AV.fz (l.map strRow)]) (fun l => (l.map fun _ => 1).sum) :=
  reads_slice (sz := 1) Try.underlying58 (by kernel_rfl) (by omega) (fun _ => rfl) (reads_str Try.underlying9)
theorem reads_ins : Reads enc w base spare held 47 insRow szIns := by
  intro fuel cs x h
  obtain ⟨xs, n, _, rfl, hl, hlen, hf⟩ := DataW.trod_struct Try.underlying47 h
  rw [show Try.prog.cellsOf 47 = 7 from by kernel_rfl] at hl
  match xs, hlen, hf with
  | [x0, x1, x2, x3, x4, x5, x6], _, hf =>
    have q0 : DataW.trod enc Try.prog w base spare held n 5 ((cs.drop 0).take (Try.prog.cellsOf 5)) = some x0 := hf 0 _ rfl
    rw [show Try.prog.cellsOf 5 = 1 from by kernel_rfl] at q0
    obtain ⟨y0, k0, c0⟩ := (reads_int Try.underlying5) n _ _ q0
    have q1 : DataW.trod enc Try.prog w base spare held n 3 ((cs.drop 1).take (Try.prog.cellsOf 3)) = some x1 := hf 1 _ rfl
    rw [show Try.prog.cellsOf 3 = 1 from by kernel_rfl] at q1
    obtain ⟨y1, k1, c1⟩ := (reads_int Try.underlying3) n _ _ q1
    have q2 : DataW.trod enc Try.prog w base spare held n 3 ((cs.drop 2).take (Try.prog.cellsOf 3)) = some x2 := hf 2 _ rfl
    rw [show Try.prog.cellsOf 3 = 1 from by kernel_rfl] at q2
    obtain ⟨y2, k2, c2⟩ := (reads_int Try.underlying3) n _ _ q2
    have q3 : DataW.trod enc Try.prog w base spare held n 3 ((cs.drop 3).take (Try.prog.cellsOf 3)) = some x3 := hf 3 _ rfl
    rw [show Try.prog.cellsOf 3 = 1 from by kernel_rfl] at q3
    obtain ⟨y3, k3, c3⟩ := (reads_int Try.underlying3) n _ _ q3
    have q4 : DataW.trod enc Try.prog w base spare held n 3 ((cs.drop 4).take (Try.prog.cellsOf 3)) = some x4 := hf 4 _ rfl
    rw [show Try.prog.cellsOf 3 = 1 from by kernel_rfl] at q4
    obtain ⟨y4, k4, c4⟩ := (reads_int Try.underlying3) n _ _ q4
    have q5 : DataW.trod enc Try.prog w base spare held n 2 ((cs.drop 5).take (Try.prog.cellsOf 2)) = some x5 := hf 5 _ rfl
    rw [show Try.prog.cellsOf 2 = 1 from by kernel_rfl] at q5
    obtain ⟨y5, k5, c5⟩ := (reads_int Try.underlying2) n _ _ q5
    have q6 : DataW.trod enc Try.prog w base spare held n 45 ((cs.drop 6).take (Try.prog.cellsOf 45)) = some x6 := hf 6 _ rfl
    rw [show Try.prog.cellsOf 45 = 1 from by kernel_rfl] at q6
    obtain ⟨y6, k6, c6⟩ := (reads_ints) n _ _ q6
    refine ⟨⟨y0, y1, y2, y3, y4, y5, y6⟩, ?_, ?_⟩
    · have b0 := bulk_one x0.1; have b1 := bulk_one x1.1; have b2 := bulk_one x2.1; have b3 := bulk_one x3.1; have b4 := bulk_one x4.1; have b5 := bulk_one x5.1; have b6 := bulk_one x6.1; simp only [List.map_cons, List.map_nil, Rows.uptoBulk, Rows.uptoBulkAll, szIns] at *; omega
    · exact (RowR.cat (n := 1) c0 (RowR.cat (n := 1) c1 (RowR.cat (n := 1) c2 (RowR.cat (n := 1) c3 (RowR.cat (n := 1) c4 (RowR.cat (n := 1) c5 (RowR.cat (n := 1) c6 (RowR.done hl))))))))
theorem reads_term : Reads enc w base spare held 42 termRow (fun _ => 1) := by
  intro fuel cs x h
  obtain ⟨xs, n, _, rfl, hl, hlen, hf⟩ := DataW.trod_struct Try.underlying42 h
  rw [show Try.prog.cellsOf 42 = 4 from by kernel_rfl] at hl
  match xs, hlen, hf with
  | [x0, x1, x2, x3], _, hf =>
    have q0 : DataW.trod enc Try.prog w base spare held n 5 ((cs.drop 0).take (Try.prog.cellsOf 5)) = some x0 := hf 0 _ rfl
    rw [show Try.prog.cellsOf 5 = 1 from by kernel_rfl] at q0
    obtain ⟨y0, k0, c0⟩ := (reads_int Try.underlying5) n _ _ q0
    have q1 : DataW.trod enc Try.prog w base spare held n 3 ((cs.drop 1).take (Try.prog.cellsOf 3)) = some x1 := hf 1 _ rfl
    rw [show Try.prog.cellsOf 3 = 1 from by kernel_rfl] at q1
    obtain ⟨y1, k1, c1⟩ := (reads_int Try.underlying3) n _ _ q1
    have q2 : DataW.trod enc Try.prog w base spare held n 3 ((cs.drop 2).take (Try.prog.cellsOf 3)) = some x2 := hf 2 _ rfl
    rw [show Try.prog.cellsOf 3 = 1 from by kernel_rfl] at q2
    obtain ⟨y2, k2, c2⟩ := (reads_int Try.underlying3) n _ _ q2
    have q3 : DataW.trod enc Try.prog w base spare held n 3 ((cs.drop 3).take (Try.prog.cellsOf 3)) = some x3 := hf 3 _ rfl
    rw [show Try.prog.cellsOf 3 = 1 from by kernel_rfl] at q3
    obtain ⟨y3, k3, c3⟩ := (reads_int Try.underlying3) n _ _ q3
    refine ⟨⟨y0, y1, y2, y3⟩, ?_, ?_⟩
    · have b0 := bulk_one x0.1; have b1 := bulk_one x1.1; have b2 := bulk_one x2.1; have b3 := bulk_one x3.1; simp only [List.map_cons, List.map_nil, Rows.uptoBulk, Rows.uptoBulkAll, ] at *; omega
    · exact (RowR.cat (n := 1) c0 (RowR.cat (n := 1) c1 (RowR.cat (n := 1) c2 (RowR.cat (n := 1) c3 (RowR.done hl)))))
theorem reads_typ : Reads enc w base spare held 57 typRow (fun _ => 1) := by
  intro fuel cs x h
  obtain ⟨xs, n, _, rfl, hl, hlen, hf⟩ := DataW.trod_struct Try.underlying57 h
  rw [show Try.prog.cellsOf 57 = 3 from by kernel_rfl] at hl
  match xs, hlen, hf with
  | [x0, x1, x2], _, hf =>
    have q0 : DataW.trod enc Try.prog w base spare held n 5 ((cs.drop 0).take (Try.prog.cellsOf 5)) = some x0 := hf 0 _ rfl
    rw [show Try.prog.cellsOf 5 = 1 from by kernel_rfl] at q0
    obtain ⟨y0, k0, c0⟩ := (reads_int Try.underlying5) n _ _ q0
    have q1 : DataW.trod enc Try.prog w base spare held n 3 ((cs.drop 1).take (Try.prog.cellsOf 3)) = some x1 := hf 1 _ rfl
    rw [show Try.prog.cellsOf 3 = 1 from by kernel_rfl] at q1
    obtain ⟨y1, k1, c1⟩ := (reads_int Try.underlying3) n _ _ q1
    have q2 : DataW.trod enc Try.prog w base spare held n 9 ((cs.drop 2).take (Try.prog.cellsOf 9)) = some x2 := hf 2 _ rfl
    rw [show Try.prog.cellsOf 9 = 1 from by kernel_rfl] at q2
    obtain ⟨y2, k2, c2⟩ := (reads_str Try.underlying9) n _ _ q2
    refine ⟨⟨y0, y1, y2⟩, ?_, ?_⟩
    · have b0 := bulk_one x0.1; have b1 := bulk_one x1.1; have b2 := bulk_one x2.1; simp only [List.map_cons, List.map_nil, Rows.uptoBulk, Rows.uptoBulkAll, ] at *; omega
    · exact (RowR.cat (n := 1) c0 (RowR.cat (n := 1) c1 (RowR.cat (n := 1) c2 (RowR.done hl))))
theorem reads_inss : Reads enc w base spare held 40 (fun l : List Ins => [AV.fz (l.map insRow)]) (fun l => (l.map szIns).sum) :=
  reads_slice (sz := 7) Try.underlying40 (by kernel_rfl) (by omega) (fun _ => rfl) reads_ins
theorem reads_block : Reads enc w base spare held 44 blockRow szBlock := by
  intro fuel cs x h
  obtain ⟨xs, n, _, rfl, hl, hlen, hf⟩ := DataW.trod_struct Try.underlying44 h
  rw [show Try.prog.cellsOf 44 = 5 from by kernel_rfl] at hl
  match xs, hlen, hf with
  | [x0, x1], _, hf =>
    have q0 : DataW.trod enc Try.prog w base spare held n 40 ((cs.drop 0).take (Try.prog.cellsOf 40)) = some x0 := hf 0 _ rfl
    rw [show Try.prog.cellsOf 40 = 1 from by kernel_rfl] at q0
    obtain ⟨y0, k0, c0⟩ := (reads_inss) n _ _ q0
    have q1 : DataW.trod enc Try.prog w base spare held n 42 ((cs.drop 1).take (Try.prog.cellsOf 42)) = some x1 := hf 1 _ rfl
    rw [show Try.prog.cellsOf 42 = 4 from by kernel_rfl] at q1
    obtain ⟨y1, k1, c1⟩ := (reads_term) n _ _ q1
    refine ⟨⟨y0, y1⟩, ?_, ?_⟩
    · have b0 := bulk_one x0.1; have b1 := bulk_one x1.1; simp only [List.map_cons, List.map_nil, Rows.uptoBulk, Rows.uptoBulkAll, szBlock] at *; omega
    · exact (RowR.cat (n := 1) c0 (RowR.cat (n := 4) c1 (RowR.done hl)))
theorem reads_var : Reads enc w base spare held 60 varRow (fun _ => 1) := by
  intro fuel cs x h
  obtain ⟨xs, n, _, rfl, hl, hlen, hf⟩ := DataW.trod_struct Try.underlying60 h
  rw [show Try.prog.cellsOf 60 = 6 from by kernel_rfl] at hl
  match xs, hlen, hf with
  | [x0, x1, x2, x3], _, hf =>
    have q0 : DataW.trod enc Try.prog w base spare held n 9 ((cs.drop 0).take (Try.prog.cellsOf 9)) = some x0 := hf 0 _ rfl
    rw [show Try.prog.cellsOf 9 = 1 from by kernel_rfl] at q0
    obtain ⟨y0, k0, c0⟩ := (reads_str Try.underlying9) n _ _ q0
    have q1 : DataW.trod enc Try.prog w base spare held n 57 ((cs.drop 1).take (Try.prog.cellsOf 57)) = some x1 := hf 1 _ rfl
    rw [show Try.prog.cellsOf 57 = 3 from by kernel_rfl] at q1
    obtain ⟨y1, k1, c1⟩ := (reads_typ) n _ _ q1
    have q2 : DataW.trod enc Try.prog w base spare held n 3 ((cs.drop 4).take (Try.prog.cellsOf 3)) = some x2 := hf 2 _ rfl
    rw [show Try.prog.cellsOf 3 = 1 from by kernel_rfl] at q2
    obtain ⟨y2, k2, c2⟩ := (reads_int Try.underlying3) n _ _ q2
    have q3 : DataW.trod enc Try.prog w base spare held n 58 ((cs.drop 5).take (Try.prog.cellsOf 58)) = some x3 := hf 3 _ rfl
    rw [show Try.prog.cellsOf 58 = 1 from by kernel_rfl] at q3
    obtain ⟨y3, k3, c3⟩ := (reads_strs) n _ _ q3
    refine ⟨⟨y0, y1, y2, y3⟩, ?_, ?_⟩
    · have b0 := bulk_one x0.1; have b1 := bulk_one x1.1; have b2 := bulk_one x2.1; have b3 := bulk_one x3.1; simp only [List.map_cons, List.map_nil, Rows.uptoBulk, Rows.uptoBulkAll, ] at *; omega
    · exact (RowR.cat (n := 1) c0 (RowR.cat (n := 3) c1 (RowR.cat (n := 1) c2 (RowR.cat (n := 1) c3 (RowR.done hl)))))
theorem reads_blocks : Reads enc w base spare held 35 (fun l : List Block => [AV.fz (l.map blockRow)]) (fun l => (l.map szBlock).sum) :=
  reads_slice (sz := 5) Try.underlying35 (by kernel_rfl) (by omega) (fun _ => rfl) reads_block
theorem reads_vars : Reads enc w base spare held 34 (fun l : List Var => [AV.fz (l.map varRow)]) (fun l => (l.map fun _ => 1).sum) :=
  reads_slice (sz := 6) Try.underlying34 (by kernel_rfl) (by omega) (fun _ => rfl) reads_var
theorem reads_fn : Reads enc w base spare held 37 fnRow szFn := by
  intro fuel cs x h
  obtain ⟨xs, n, _, rfl, hl, hlen, hf⟩ := DataW.trod_struct Try.underlying37 h
  rw [show Try.prog.cellsOf 37 = 6 from by kernel_rfl] at hl
  match xs, hlen, hf with
  | [x0, x1, x2, x3, x4, x5], _, hf =>
    have q0 : DataW.trod enc Try.prog w base spare held n 9 ((cs.drop 0).take (Try.prog.cellsOf 9)) = some x0 := hf 0 _ rfl
    rw [show Try.prog.cellsOf 9 = 1 from by kernel_rfl] at q0
    obtain ⟨y0, k0, c0⟩ := (reads_str Try.underlying9) n _ _ q0
    have q1 : DataW.trod enc Try.prog w base spare held n 3 ((cs.drop 1).take (Try.prog.cellsOf 3)) = some x1 := hf 1 _ rfl
    rw [show Try.prog.cellsOf 3 = 1 from by kernel_rfl] at q1
    obtain ⟨y1, k1, c1⟩ := (reads_int Try.underlying3) n _ _ q1
    have q2 : DataW.trod enc Try.prog w base spare held n 4 ((cs.drop 2).take (Try.prog.cellsOf 4)) = some x2 := hf 2 _ rfl
    rw [show Try.prog.cellsOf 4 = 1 from by kernel_rfl] at q2
    obtain ⟨y2, k2, c2⟩ := (reads_bool Try.underlying4) n _ _ q2
    have q3 : DataW.trod enc Try.prog w base spare held n 34 ((cs.drop 3).take (Try.prog.cellsOf 34)) = some x3 := hf 3 _ rfl
    rw [show Try.prog.cellsOf 34 = 1 from by kernel_rfl] at q3
    obtain ⟨y3, k3, c3⟩ := (reads_vars) n _ _ q3
    have q4 : DataW.trod enc Try.prog w base spare held n 35 ((cs.drop 4).take (Try.prog.cellsOf 35)) = some x4 := hf 4 _ rfl
    rw [show Try.prog.cellsOf 35 = 1 from by kernel_rfl] at q4
    obtain ⟨y4, k4, c4⟩ := (reads_blocks) n _ _ q4
    have q5 : DataW.trod enc Try.prog w base spare held n 3 ((cs.drop 5).take (Try.prog.cellsOf 3)) = some x5 := hf 5 _ rfl
    rw [show Try.prog.cellsOf 3 = 1 from by kernel_rfl] at q5
    obtain ⟨y5, k5, c5⟩ := (reads_int Try.underlying3) n _ _ q5
    refine ⟨⟨y0, y1, y2, y3, y4, y5⟩, ?_, ?_⟩
    · have b0 := bulk_one x0.1; have b1 := bulk_one x1.1; have b2 := bulk_one x2.1; have b3 := bulk_one x3.1; have b4 := bulk_one x4.1; have b5 := bulk_one x5.1; simp only [List.map_cons, List.map_nil, Rows.uptoBulk, Rows.uptoBulkAll, szFn] at *; omega
    · exact (RowR.cat (n := 1) c0 (RowR.cat (n := 1) c1 (RowR.cat (n := 1) c2 (RowR.cat (n := 1) c3 (RowR.cat (n := 1) c4 (RowR.cat (n := 1) c5 (RowR.done hl)))))))
theorem reads_point : Reads enc w base spare held 62 pointRow szPoint := by
  intro fuel cs x h
  obtain ⟨xs, n, _, rfl, hl, hlen, hf⟩ := DataW.trod_struct Try.underlying62 h
  rw [show Try.prog.cellsOf 62 = 3 from by kernel_rfl] at hl
  match xs, hlen, hf with
  | [x0, x1, x2], _, hf =>
    have q0 : DataW.trod enc Try.prog w base spare held n 3 ((cs.drop 0).take (Try.prog.cellsOf 3)) = some x0 := hf 0 _ rfl
    rw [show Try.prog.cellsOf 3 = 1 from by kernel_rfl] at q0
    obtain ⟨y0, k0, c0⟩ := (reads_int Try.underlying3) n _ _ q0
    have q1 : DataW.trod enc Try.prog w base spare held n 3 ((cs.drop 1).take (Try.prog.cellsOf 3)) = some x1 := hf 1 _ rfl
    rw [show Try.prog.cellsOf 3 = 1 from by kernel_rfl] at q1
    obtain ⟨y1, k1, c1⟩ := (reads_int Try.underlying3) n _ _ q1
    have q2 : DataW.trod enc Try.prog w base spare held n 45 ((cs.drop 2).take (Try.prog.cellsOf 45)) = some x2 := hf 2 _ rfl
    rw [show Try.prog.cellsOf 45 = 1 from by kernel_rfl] at q2
    obtain ⟨y2, k2, c2⟩ := (reads_ints) n _ _ q2
    refine ⟨⟨y0, y1, y2⟩, ?_, ?_⟩
    · have b0 := bulk_one x0.1; have b1 := bulk_one x1.1; have b2 := bulk_one x2.1; simp only [List.map_cons, List.map_nil, Rows.uptoBulk, Rows.uptoBulkAll, szPoint] at *; omega
    · exact (RowR.cat (n := 1) c0 (RowR.cat (n := 1) c1 (RowR.cat (n := 1) c2 (RowR.done hl))))
theorem reads_fns : Reads enc w base spare held 22 (fun l : List Fn => [AV.fz (l.map fnRow)]) (fun l => (l.map szFn).sum) :=
  reads_slice (sz := 6) Try.underlying22 (by kernel_rfl) (by omega) (fun _ => rfl) reads_fn
theorem reads_points : Reads enc w base spare held 23 (fun l : List Point => [AV.fz (l.map pointRow)]) (fun l => (l.map szPoint).sum) :=
  reads_slice (sz := 3) Try.underlying23 (by kernel_rfl) (by omega) (fun _ => rfl) reads_point
theorem reads_unt : Reads enc w base spare held 25 untRow szUnt := by
  intro fuel cs x h
  obtain ⟨xs, n, _, rfl, hl, hlen, hf⟩ := DataW.trod_struct Try.underlying25 h
  rw [show Try.prog.cellsOf 25 = 3 from by kernel_rfl] at hl
  match xs, hlen, hf with
  | [x0, x1, x2], _, hf =>
    have q0 : DataW.trod enc Try.prog w base spare held n 22 ((cs.drop 0).take (Try.prog.cellsOf 22)) = some x0 := hf 0 _ rfl
    rw [show Try.prog.cellsOf 22 = 1 from by kernel_rfl] at q0
    obtain ⟨y0, k0, c0⟩ := (reads_fns) n _ _ q0
    have q1 : DataW.trod enc Try.prog w base spare held n 3 ((cs.drop 1).take (Try.prog.cellsOf 3)) = some x1 := hf 1 _ rfl
    rw [show Try.prog.cellsOf 3 = 1 from by kernel_rfl] at q1
    obtain ⟨y1, k1, c1⟩ := (reads_int Try.underlying3) n _ _ q1
    have q2 : DataW.trod enc Try.prog w base spare held n 23 ((cs.drop 2).take (Try.prog.cellsOf 23)) = some x2 := hf 2 _ rfl
    rw [show Try.prog.cellsOf 23 = 1 from by kernel_rfl] at q2
    obtain ⟨y2, k2, c2⟩ := (reads_points) n _ _ q2
    refine ⟨⟨y0, y1, y2⟩, ?_, ?_⟩
    · have b0 := bulk_one x0.1; have b1 := bulk_one x1.1; have b2 := bulk_one x2.1; simp only [List.map_cons, List.map_nil, Rows.uptoBulk, Rows.uptoBulkAll, szUnt] at *; omega
    · exact (RowR.cat (n := 1) c0 (RowR.cat (n := 1) c1 (RowR.cat (n := 1) c2 (RowR.done hl))))
end
end Go.Proofs.Ytgoajlgkbcongaa.Vm
end
section
set_option linter.unusedVariables false
set_option linter.unusedSimpArgs false
set_option maxRecDepth 100000
namespace Go.Proofs.Ytgoajlgkbcongaa.Vm
open Go Go.RowKit Go.Proofs Go.ChangeShapes Go.WideShapes Go.ChangeAt
theorem sum_ones {α : Type} (l : List α) : (l.map fun _ => 1).sum = l.length := by
  induction l with
  | nil => rfl
  | cons x l ih => simp [ih]; omega
theorem le_sum {α : Type} (f : α → Nat) {l : List α} {x : α} (h : x ∈ l) : f x ≤ (l.map f).sum := by
  induction l with
  | nil => simp at h
  | cons y l ih =>
    rw [List.map_cons, List.sum_cons]
    rcases List.mem_cons.1 h with rfl | h
    · omega
    · have := ih h; omega
theorem sum_le_sum {α : Type} (f g : α → Nat) : ∀ (l : List α), (∀ x ∈ l, f x ≤ g x) → (l.map f).sum ≤ (l.map g).sum
  | [], _ => by simp
  | x :: l, h => by
    have h1 := h x (by simp)
    have h2 := sum_le_sum f g l (fun y hy => h y (by simp [hy]))
    simp only [List.map_cons, List.sum_cons]; omega
theorem szBlock_ins (b : Block) : 1 + b.ins.length ≤ szBlock b := by
  have h := sum_le_sum (fun _ => 1) szIns b.ins (fun x _ => by unfold szIns; omega)
  rw [sum_ones] at h
  unfold szBlock; omega
theorem insTo_all (f : Fn) : insTo f f.blocks.length = (f.blocks.map fun b => b.ins.length).sum := by unfold insTo; rw [List.take_length]
theorem szFn_cnt (f : Fn) : 1 + fcnt f ≤ szFn f := by
  have h : (f.blocks.map fun b => 1 + b.ins.length).sum ≤ (f.blocks.map szBlock).sum := sum_le_sum _ _ _ (fun b _ => szBlock_ins b)
  have h2 : (f.blocks.map fun b => 1 + b.ins.length).sum = f.blocks.length + (f.blocks.map fun b => b.ins.length).sum := by
    generalize f.blocks = l
    induction l with
    | nil => rfl
    | cons x l ih => simp only [List.map_cons, List.sum_cons, List.length_cons, ih]; omega
  unfold fcnt szFn
  rw [sum_ones]; omega
theorem szUnt_cnt (u : Unt) : cnt u ≤ szUnt u := by
  have h : (u.funcs.map fun f => 1 + fcnt f).sum ≤ (u.funcs.map szFn).sum := sum_le_sum _ _ _ (fun b _ => szFn_cnt b)
  have h2 : (u.funcs.map fun f => 1 + fcnt f).sum = u.funcs.length + (u.funcs.map fcnt).sum := by
    generalize u.funcs = l
    induction l with
    | nil => rfl
    | cons x l ih => simp only [List.map_cons, List.sum_cons, List.length_cons, ih]; omega
  have h3 := sum_le_sum (fun _ => 1) szPoint u.points (fun x _ => by unfold szPoint; omega)
  rw [sum_ones] at h3
  unfold cnt szUnt; omega
theorem modest_of {u : Unt} (h : szUnt u ≤ 1048576) : Modest u := by
  have hf : ∀ f ∈ u.funcs, szFn f ≤ 1048576 := fun f hm => by have := le_sum szFn hm; unfold szUnt at h; omega
  have hp : ∀ p ∈ u.points, szPoint p ≤ 1048576 := fun f hm => by have := le_sum szPoint hm; unfold szUnt at h; omega
  have hc := szUnt_cnt u
  refine ⟨by unfold cnt at hc; omega, by unfold cnt at hc; omega, fun p hm => ?_, fun f hm => ?_, fun f hm => ?_, fun f hm => ?_, fun f hm b hb x hx => ?_⟩
  · have := hp p hm; unfold szPoint at this; rw [sum_ones] at this; omega
  · have := hf f hm; have := szFn_cnt f; unfold fcnt at this; omega
  · have := hf f hm; have := szFn_cnt f; unfold fcnt at this; omega
  · have := hf f hm; have := szFn_cnt f; rw [insTo_all]; unfold fcnt at this; omega
  · have h1 := hf f hm
    have h2 : szBlock b ≤ (f.blocks.map szBlock).sum := le_sum szBlock hb
    have h3 : (f.blocks.map szBlock).sum ≤ szFn f := by unfold szFn; omega
    have h4 : szIns x ≤ (b.ins.map szIns).sum := le_sum szIns hx
    have h5 : (b.ins.map szIns).sum ≤ szBlock b := by unfold szBlock; omega
    have h6 : 1 + x.args.length ≤ szIns x := by unfold szIns; rw [sum_ones]; omega
    omega
theorem slices_pos {t e : TypeId} (ht : t < Try.prog.types.size) (h : Try.prog.underlying t = some (.slice e)) : 0 < Try.prog.cellsOf e := by
  have h0 : ((List.range Try.prog.types.size).all fun t => match Try.prog.underlying t with
    | some (.slice e) => decide (0 < Try.prog.cellsOf e)
    | _ => true) = true := by kernel_rfl
  have h1 := List.all_eq_true.1 h0 t (List.mem_range.2 ht)
  rw [h] at h1
  simpa using h1
section
variable {H : Type} {enc : TypeId × Value → H}
theorem post_kept {P : Program} {f : Func} {s : ChangeSpec} {apart fresh handsOn again : Bool} {W W' : World} {args : Array Value} {v : Value} {ds gs : List (DataW H)} {before pa pv : List MemPlace}
    (hW : DataW.Whole enc P f.params.toList s.vars apart W args.toList ds gs before)
    (hres : ∀ (b : Nat) (sp : Nat → Bool) (hd : Bool), DataW.TrodAll enc P W' b sp hd f.resultTypes.toList (v.resultList f.resultTypes.size) (s.fn H (ds ++ gs)).results [])
    (hargs : ∀ sp : Nat → Bool, (∀ p ∈ before, sp p.block = true) → DataW.TrodAll enc P W' 0 sp true f.params.toList args.toList (s.fn H (ds ++ gs)).args pa)
    (hvars : ∀ sp : Nat → Bool, (∀ p ∈ before, sp p.block = true) → DataW.TrodVars enc P W' sp s.vars (s.fn H (ds ++ gs)).vars pv)
    (hps : before = pa ++ pv) (hk : W.keptBut W' (· ∈ before)) (hfz : ∀ b off, MemPlace.cell b off ∈ before → W'.frozen? ⟨b, off, none⟩ = W.frozen? ⟨b, off, none⟩)
    (hok : ∀ (j : Nat) (t : TypeId) (r : Value), f.resultTypes[j]? = some t → (v.resultList f.resultTypes.size)[j]? = some r → Value.okWide P W' .any 0 t r) :
    s.post enc P f apart fresh handsOn again W args v W' := by
  have hold : ∀ p ∈ before, (fun b => decide (b < W.heap.size)) p.block = true := fun p hp => by simpa using hW.lt p hp
  refine ⟨ds, gs, before, [], pa, pv, hW, hres _ _ _, hargs _ hold, hvars _ hold, World.keptBut_mono (fun p hp => ⟨hp, ?_⟩) hk, fun _ => ?_⟩
  · rw [hps, List.mem_append] at hp
    exact Or.inr hp
  · obtain ⟨_, _, _, _, _, hz, hn⟩ := hW
    refine ⟨hok, _, _, ([] ++ pa) ++ pv, ⟨[] ++ pa, pv, trodAll_append (hargs _ (fun _ _ => rfl)) (hres _ _ _), hvars _ (fun _ _ => rfl), rfl, ?_, ?_⟩, ?_⟩
    · intro b off hp
      have hb : MemPlace.cell b off ∈ before := by rw [hps]; simpa using hp
      rw [hfz b off hb]
      exact hz b off hb
    · intro ha
      have := hn ha
      rw [hps] at this
      simpa using this
    · intro p hp _
      rw [hps]
      simpa using hp
/-- THE STEP OF A LAW over one unit that answers true. -/
theorem law_contract {N : FuncId} {f : Func} {s : ChangeSpec} {apart fresh handsOn again : Bool} (hp : f.params = #[25]) (hr : f.resultTypes = #[4]) (hv : s.vars = [])
    (hs : ∀ d : DataW H, s.fn H [d] = { results := [.lit (.bool true)], args := [d] })
    (hlaw : ∀ u, szUnt u ≤ 1048576 → Fun Try.prog N [.agg (untRow u)] (fun r => r = .bool true))
    (W : World) (base : Nat) (args : Array Value) (ds gs : List (DataW H)) (before : List MemPlace)
    (hval : ∀ (j : Nat) t v, f.params[j]? = some t → args[j]? = some v → Value.okWide Try.prog W .any base t v)
    (hW : DataW.Whole enc Try.prog f.params.toList s.vars apart W args.toList ds gs before) (hk : Rows.uptoSmall H (ds ++ gs) = true) :
    Calls Try.prog N args W fun e W' => ∃ v, e = .returned v ∧ s.post enc Try.prog f apart fresh handsOn again W args v W' := by
  have hW' := hW
  obtain ⟨p, q, hA, hV, rfl, hfz, hnd⟩ := hW
  rw [hp] at hA hval
  obtain ⟨v0, vs0, d0, ds0, p0, q0, hargs, rfl, rfl, h0, r0⟩ := trodAll_cons hA
  obtain ⟨rfl, rfl, rfl⟩ := trodAll_nil r0
  obtain rfl : args = #[v0] := by cases args; simp_all
  rw [hv] at hV
  obtain ⟨rfl, rfl⟩ := trodVars_none hV
  obtain ⟨cs, rfl, hcs⟩ := okWide_struct Try.underlying25 (hval 0 25 v0 rfl rfl)
  obtain ⟨fuel, hf⟩ := h0
  have hf : DataW.trod enc Try.prog W 0 (fun _ => true) true fuel 25 cs.toList = some (d0, p0) := hf
  obtain ⟨u, hu, hrow⟩ := reads_unt fuel _ _ hf
  have hb : szUnt u ≤ 1048576 := by
    have h1 : Rows.uptoBulkAll ([d0] ++ []) ≤ 1048576 := of_decide_eq_true hk
    simp only [List.append_nil, Rows.uptoBulkAll] at h1
    exact Nat.le_trans hu (by omega)
  simp only [List.append_nil] at hW'
  obtain ⟨_, hcon⟩ := hlaw u hb
  refine (hcon ⟨W, fun _ => False, fun _ => .nilFunc, 0⟩ #[.agg cs] (fun _ h => h.elim) rfl (fun i v cv h1 h2 => ?_)).mono fun e W' he => ?_
  · cases i with
    | zero =>
      cases h1; cases h2
      refine .agg _ _ (by have := hrow.1; simpa using this) (fun k v cv h1 h2 => (hrow.2 k v cv h1 (by simpa using h2)).1)
    | succ i => simp at h1
  cases e with
  | panicked _ => exact he.elim
  | outgrown => exact he.elim
  | returned cv =>
    obtain ⟨res, C', Fv, rfl, hw, _, _, _, hVR, _, hFr⟩ := he
    have hcv : cv = .bool true := by cases hVR with | lit _ _ h => cases h; rfl
    subst hcv
    have hlt : ∀ p ∈ p0, p.block < W.heap.size := fun p hp => hW'.lt p (by simpa using hp)
    have hbk : ∀ x, x < W.heap.size → W'.heap[x]? = W.heap[x]? := fun x hx => hFr.block x hx (fun h => h)
    refine ⟨_, rfl, post_kept (pa := p0) (pv := []) hW' (fun _ _ _ => ?_) (fun sp hsp => ?_) (fun _ _ => ?_) (by simp) ⟨hFr.os, hFr.output, fun i hi => ?_⟩ (fun b off hm => ?_) ?_⟩
    · rw [hr, List.append_nil, hs]
      exact trodAll_cons_mk (shut_bool Try.underlying4 _) trodAll_mk0
    · rw [hp, List.append_nil, hs]
      have ht : DataW.trod enc Try.prog W' 0 sp true fuel 25 cs.toList = some (d0, p0) := by
        refine DataW.trod_stays (T := (· < Try.prog.types.size)) (kids_rows (by kernel_rfl) (by kernel_rfl)) slices_pos (fun h => by cases h) (of_decide_eq_true (by kernel_rfl)) hf (fun p hp => ?_) (fun p hp => hsp p (by simpa using hp))
        have h2 := hbk p.block (hlt p hp)
        cases p with
        | cell b off => show W'.cell? _ = W.cell? _; unfold World.cell?; simp only [MemPlace.block] at h2; simp only [h2]
        | map b => exact h2
      have this : DataW.Trod enc Try.prog W' 0 sp true 25 (.agg cs) d0 p0 := ⟨fuel, ht⟩
      have h1 := trodAll_cons_mk this trodAll_mk0
      rw [List.append_nil] at h1
      exact h1
    · rw [hv, List.append_nil, hs]; exact rfl
    · rw [hbk i hi]
      cases W.heap[i]? with
      | none => rfl
      | some o => cases o with
        | cells c t fr => obtain ⟨a, b⟩ := fr; exact ⟨rfl, rfl, rfl, fun _ _ => rfl⟩
        | map es cl => exact .inr ⟨rfl, rfl⟩
        | _ => rfl
    · have h2 := hbk b (hlt (.cell b off) (by simpa using hm))
      unfold World.frozen?; simp only [h2]
    · exact ok_one (by rw [hr]) rfl (okWide_bool_mk Try.underlying4 _)
end
end Go.Proofs.Ytgoajlgkbcongaa.Vm
end
section
set_option linter.unusedVariables false
set_option linter.unusedSimpArgs false
set_option maxRecDepth 100000
namespace Go.Proofs.Ytgoajlgkbcongaa.Vm
open Go Go.RowKit Go.Proofs
theorem head_facts {f : Fn} (h : badHead f = false) : 1 ≤ f.blocks.length ∧ f.blocks.length ≤ 2000 ∧ 0 ≤ f.size ∧ f.size ≤ 524288 ∧ 0 ≤ f.params ∧ f.params ≤ f.vars.length := by
  unfold badHead at h
  split at h; · cases h
  split at h; · cases h
  split at h; · cases h
  split at h; · cases h
  split at h; · cases h
  simp only [decide_eq_true_eq, decide_eq_false_iff_not] at *
  omega
theorem term_facts {f : Fn} {t : Term} (h : badTerm f t = false) : t.kind = 1 ∨ t.a < f.size := by
  by_cases hk : t.kind = 1
  · exact .inl hk
  right
  unfold badTerm at h
  rw [if_pos (by simpa using hk)] at h
  cases hr : retOk f t with
  | true =>
    unfold retOk at hr
    split at hr
    · split at hr
      · simpa using hr
      · cases hr
    · cases hr
  | false =>
    rw [hr, if_neg (by simp)] at h
    split at h; · cases h
    split at h; · cases h
    simpa using h
theorem dst_facts {f : Fn} {x : Ins} (h : badDst f x = false) : makesOf x < f.size ∧ -1 ≤ makesOf x ∧ (makesOf x < 0 → x.op = 42 ∨ noDst x.op = true) := by
  unfold badDst at h
  split at h; · cases h
  split at h; · cases h
  rename_i h1 h2
  simp only [decide_eq_true_eq] at h1 h2
  refine ⟨by omega, by omega, fun h3 => ?_⟩
  rw [if_pos (by simpa using h3)] at h
  split at h
  · exact .inr (by simpa using h)
  · rename_i h4; exact .inl (by simpa using h4)
theorem dceMakes_facts {op : Int} (h : dceMakes op = true) : op ≠ 4 ∧ op ≠ 5 ∧ op ≠ 37 ∧ op ≠ 42 ∧ op ≠ 43 ∧ op ≠ 38 ∧ op ≠ 40 ∧ op ≠ 41 ∧ op ≠ 44 ∧ op ≠ 45 ∧ op ≠ 46 := by
  unfold dceMakes stayOp noneOp at h
  split at h; · cases h
  split at h; · cases h
  simp_all
theorem makes_dst {x : Ins} (h : dceMakes x.op = true) (h35 : x.op ≠ 35) : makesOf x = x.dst := by
  obtain ⟨_, _, _, _, _, h38, h40, h41, h44, h45, h46⟩ := dceMakes_facts h
  unfold makesOf noDst
  rw [if_neg (by simp [*])]
theorem makes_pos {f : Fn} {x : Ins} (h : dceMakes x.op = true) (h35 : x.op ≠ 35) (hd : badDst f x = false) : 0 ≤ x.dst ∧ x.dst < f.size := by
  obtain ⟨h1, h2, h3⟩ := dst_facts hd
  rw [makes_dst h h35] at h1 h2 h3
  refine ⟨?_, h1⟩
  by_cases h4 : x.dst < 0
  · obtain ⟨_, _, _, h42, _, h38, h40, h41, h44, h45, h46⟩ := dceMakes_facts h
    rcases h3 h4 with h | h
    · exact absurd h h42
    · unfold noDst at h; simp [*] at h
  · omega
theorem looks_uses {x : Ins} {v : Int} (h : v ∈ dceLooks x) : v ∈ usesOf x := by
  unfold dceLooks at h
  split at h
  · rename_i h1
    unfold two101 at h1
    simp only [Bool.or_eq_true, Bool.and_eq_true, decide_eq_true_eq, beq_iff_eq] at h1
    unfold usesOf
    rcases h1 with ⟨h1, h2⟩ | h1
    · rw [if_neg (by unfold one62; simp; omega), if_neg (by simp; omega), if_neg (by unfold all62; simp; omega), if_neg (by simp; omega), if_pos (by simp; omega)]
      exact h
    · rw [if_neg (by unfold one62; simp; omega), if_pos (by simp; omega)]
      exact h
  split at h
  · rename_i _ h1
    unfold one101 at h1
    simp only [Bool.or_eq_true, beq_iff_eq] at h1
    unfold usesOf
    rw [if_pos (by unfold one62; simp; omega)]
    exact h
  split at h
  · rename_i _ _ h1
    unfold all101 at h1
    simp only [Bool.or_eq_true, beq_iff_eq] at h1
    unfold usesOf
    rw [if_neg (by unfold one62; simp; omega), if_neg (by simp; omega), if_pos (by unfold all62; simp; omega)]
    exact h
  · simp at h
theorem bind_uses {x : Ins} (h : (x.op == 46) = true) : usesOf x = if decide (x.a ≥ 0) then [x.a] else [] := by
  have h : x.op = 46 := by simpa using h
  unfold usesOf
  rw [if_neg (by unfold one62; simp; omega), if_neg (by simp; omega), if_neg (by unfold all62; simp; omega), if_pos (by simp; omega)]
theorem no35 {x : Ins} {f : Fn} {b i : Nat} (h : InsSnd f b i x) : x.op ≠ 35 := by
  have := h.op
  intro h2; rw [h2] at this; simp at this
theorem dceU_of {u : Unt} (hm : Vm.Modest u) (h : SoundP u) : DceU u where
  fn := by
    intro f hf
    obtain ⟨n, hn⟩ := List.getElem?_of_mem hf
    have hF := h.may.funcs n f hn
    have hS := h.fn n f hn
    obtain ⟨k1, k2, k3, k4, k5, k6⟩ := head_facts hF.fn.head
    have hN : f.size = (f.size.toNat : Int) := by omega
    have hin : ∀ b ∈ f.blocks, ∀ x ∈ b.ins, badDst f x = false ∧ (∀ y ∈ usesOf x, 0 ≤ y ∧ y < f.size) ∧ x.op ≠ 35 := by
      intro b hb x hx
      obtain ⟨i, hi⟩ := List.getElem?_of_mem hb
      obtain ⟨k, hk⟩ := List.getElem?_of_mem hx
      have h1 := hF.fn.ins i b hi k x hk
      have h2 := (hS.blks i b hi).ins k x hk
      exact ⟨h1.dst, h1.uses, no35 h2⟩
    refine ⟨⟨hN, by omega, k2, hF.fn.many, hm.args f hf, fun b hb x hx hd => ?_, fun b hb x hx v hv => ?_, fun b hb hk => ?_⟩, fun b hb x hx h46 => ?_⟩
    · obtain ⟨h1, h2, h3⟩ := hin b hb x hx
      have := makes_pos hd h3 h1
      omega
    · have := (hin b hb x hx).2.1 v (looks_uses hv)
      omega
    · rcases term_facts (hF.fn.terms b hb).bad with h1 | h1
      · exact absurd h1 hk
      · omega
    · have h1 := (hin b hb x hx).2.1
      rw [bind_uses h46] at h1
      by_cases h2 : x.a ≥ 0
      · rw [if_pos (by simpa using h2)] at h1
        have := h1 x.a (by simp)
        omega
      · omega
/-! ### The rules of form after dce -/
theorem dceIns_same (need : List Bool) (x : Ins) : (dceIns need x).op = x.op ∧ (dceIns need x).dst = x.dst ∧ (dceIns need x).b = x.b ∧ (dceIns need x).var = x.var ∧ (dceIns need x).num = x.num ∧ (dceIns need x).args = x.args ∧
    ((dceIns need x).a = x.a ∨ ((x.op == 46) = true ∧ (dceIns need x).a = -1)) := by
  unfold dceIns
  split
  · rename_i h
    refine ⟨rfl, rfl, rfl, rfl, rfl, rfl, .inr ⟨?_, rfl⟩⟩
    unfold goneB at h
    split at h
    · assumption
    · cases h
  · exact ⟨rfl, rfl, rfl, rfl, rfl, rfl, .inl rfl⟩
theorem dceRow_cons (need : List Bool) (y : Ins) (l : List Ins) : dceRow need (y :: l) = if dropB need y then dceRow need l else dceIns need y :: dceRow need l := by
  unfold dceRow
  rw [List.filter_cons]
  cases dropB need y <;> simp
/-- Where an instruction of the new row comes from. -/
theorem dceRow_from (need : List Bool) : ∀ (l : List Ins) (k : Nat) (x' : Ins), (dceRow need l)[k]? = some x' →
    ∃ j x, l[j]? = some x ∧ x' = dceIns need x ∧ dropB need x = false ∧ (dceRow need l).take k = dceRow need (l.take j)
  | [], k, x', h => by simp [dceRow] at h
  | y :: l, k, x', h => by
    rw [dceRow_cons] at h
    cases hd : dropB need y with
    | true =>
      rw [hd, if_pos rfl] at h
      obtain ⟨j, x, h1, h2, h3, h4⟩ := dceRow_from need l k x' h
      refine ⟨j + 1, x, h1, h2, h3, ?_⟩
      rw [dceRow_cons, hd, if_pos rfl, h4, List.take_succ_cons, dceRow_cons, hd, if_pos rfl]
    | false =>
      rw [hd, if_neg (by simp)] at h
      cases k with
      | zero =>
        cases h
        exact ⟨0, y, rfl, rfl, hd, rfl⟩
      | succ k =>
        obtain ⟨j, x, h1, h2, h3, h4⟩ := dceRow_from need l k x' h
        refine ⟨j + 1, x, h1, h2, h3, ?_⟩
        rw [dceRow_cons, hd, if_neg (by simp), List.take_succ_cons, h4, List.take_succ_cons, dceRow_cons, hd, if_neg (by simp)]
theorem dceRow_mem {need : List Bool} {l : List Ins} {x' : Ins} (h : x' ∈ dceRow need l) : ∃ x ∈ l, x' = dceIns need x ∧ dropB need x = false := by
  unfold dceRow at h
  rw [List.mem_map] at h
  obtain ⟨x, hx, rfl⟩ := h
  rw [List.mem_filter] at hx
  exact ⟨x, hx.1, rfl, by simpa using hx.2⟩
theorem atI_map {α β : Type} (f : α → β) (l : List α) (k : Int) : atI (l.map f) k = (atI l k).map f := by
  unfold atI
  split
  · rw [List.getElem?_map]
  · rfl
theorem dceFn_terms (need : List Bool) (f : Fn) : termsOf (dceFnW need f) = termsOf f := by
  unfold termsOf dceFnW
  rw [List.map_map]; rfl
theorem dceFn_insTo (need : List Bool) (f : Fn) (k : Nat) : insTo (dceFnW need f) k ≤ insTo f k := by
  unfold insTo dceFnW
  simp only
  rw [← List.map_take, List.map_map]
  exact sum_le_sum _ _ _ (fun b _ => dceRow_len need b.ins)
theorem dce_modest {u : Unt} (h : Vm.Modest u) : Vm.Modest (dceUnit u) where
  funcs := by unfold dceUnit; simpa using h.funcs
  points := h.points
  scopes := h.scopes
  vars := by
    intro f' hf
    unfold dceUnit at hf; simp only [List.mem_map] at hf
    obtain ⟨f, hf, rfl⟩ := hf
    exact h.vars f hf
  blocks := by
    intro f' hf
    unfold dceUnit at hf; simp only [List.mem_map] at hf
    obtain ⟨f, hf, rfl⟩ := hf
    have := h.blocks f hf
    unfold dceFn dceFnW; simpa using this
  ins := by
    intro f' hf
    unfold dceUnit at hf; simp only [List.mem_map] at hf
    obtain ⟨f, hf, rfl⟩ := hf
    have h1 := h.ins f hf
    have h2 := dceFn_insTo (needOf f f.size.toNat) f f.blocks.length
    have h3 : (dceFn f).blocks.length = f.blocks.length := by unfold dceFn dceFnW; simp
    rw [h3]; unfold dceFn; omega
  args := by
    intro f' hf b hb x hx
    unfold dceUnit at hf; simp only [List.mem_map] at hf
    obtain ⟨f, hf, rfl⟩ := hf
    unfold dceFn dceFnW at hb; simp only [List.mem_map] at hb
    obtain ⟨b0, hb0, rfl⟩ := hb
    obtain ⟨x0, hx0, rfl, _⟩ := dceRow_mem hx
    rw [(dceIns_same _ x0).2.2.2.2.2.1]
    exact h.args f hf b0 hb0 x0 hx0
theorem dce_known (u : Unt) (n : Int) (f : Fn) (need : List Bool) (x : Ins) : knownOf (dceUnit u) n (dceFnW need f) (dceIns need x) = knownOf u n f x := by
  obtain ⟨h1, h2, h3, h4, h5, h6, _⟩ := dceIns_same need x
  have ha : ∀ k m, argsFit (dceUnit u) k m = argsFit u k m := by
    intro k m
    unfold argsFit dceUnit
    simp only [atI_map]
    cases atI u.funcs k with
    | none => rfl
    | some g => rfl
  unfold knownOf
  rw [h1, h4, h5, h6, ha]
  rfl
theorem dce_makes (need : List Bool) (x : Ins) : makesOf (dceIns need x) = makesOf x := by
  obtain ⟨h1, h2, _⟩ := dceIns_same need x
  unfold makesOf; rw [h1, h2]
theorem dce_uses {need : List Bool} {x : Ins} {y : Int} (h : y ∈ usesOf (dceIns need x)) : y ∈ usesOf x := by
  obtain ⟨h1, h2, h3, h4, h5, h6, h7⟩ := dceIns_same need x
  rcases h7 with h7 | ⟨h7, h8⟩
  · have : usesOf (dceIns need x) = usesOf x := by unfold usesOf; rw [h1, h3, h6, h7]
    rwa [this] at h
  · rw [bind_uses (by rw [h1]; exact h7), h8] at h
    simp at h
theorem dce_phis {need : List Bool} {l : List Ins} (h : phis l = true) : phis (dceRow need l) = true := by
  unfold phis at *
  rw [List.all_eq_true] at *
  intro x hx
  obtain ⟨x0, h0, rfl, _⟩ := dceRow_mem hx
  rw [(dceIns_same need x0).1]
  exact h x0 h0
theorem phis_47 {l : List Ins} {x : Ins} (h : phis (l ++ [x]) = true) : phis l = true := by
  unfold phis at *
  rw [List.all_append, Bool.and_eq_true] at h
  exact h.1
theorem take_one {α : Type} {l : List α} {k : Nat} {x : α} (h : l[k]? = some x) : l.take (k + 1) = l.take k ++ [x] := by
  rw [List.take_add_one, h]; rfl
theorem dce_fnOk {u : Unt} {n : Nat} {f : Fn} (need : List Bool) (h : FnOk u n f) : FnOk (dceUnit u) n (dceFnW need f) where
  head := by
    have hl : (dceFnW need f).blocks.length = f.blocks.length := by unfold dceFnW; simp
    have := h.head
    unfold badHead at *
    rw [hl]; exact this
  terms := by
    intro b hb
    unfold dceFnW at hb; simp only [List.mem_map] at hb
    obtain ⟨b0, hb0, rfl⟩ := hb
    refine ⟨?_, (h.terms b0 hb0).bad⟩
    have hl : (dceFnW need f).blocks.length = f.blocks.length := by unfold dceFnW; simp
    rw [hl]; exact (h.terms b0 hb0).next
  many := by
    have hl : (dceFnW need f).blocks.length = f.blocks.length := by unfold dceFnW; simp
    have h1 := dceFn_insTo need f f.blocks.length
    have h2 := h.many
    rw [hl]; omega
  ins := by
    intro i b hb k x' hx'
    unfold dceFnW at hb; simp only at hb
    rw [List.getElem?_map] at hb
    cases hb0 : f.blocks[i]? with
    | none => rw [hb0] at hb; cases hb
    | some b0 =>
      rw [hb0] at hb; cases hb
      have hx' : (dceRow need b0.ins)[k]? = some x' := hx'
      obtain ⟨j, x, hx, rfl, hdr, htk⟩ := dceRow_from need b0.ins k x' hx'
      have hI := h.ins i b0 hb0 j x hx
      have hop := (dceIns_same need x).1
      refine ⟨?_, ?_, fun y hy => hI.uses y (dce_uses hy)⟩
      · have h1 := hI.known
        show badKnown (dceUnit u) n (dceFnW need f) i (phis ((dceRow need b0.ins).take (k + 1))) (dceIns need x) = false
        unfold badKnown at *
        rw [dce_known]
        cases hk : knownOf u n f x with
        | false => rw [hk] at h1; simp at h1
        | true =>
          rw [hk, if_pos rfl] at h1
          rw [if_pos rfl]
          rw [hop, (dceIns_same need x).2.2.2.2.2.1, dceFn_terms]
          cases ho : (x.op == 47) with
          | false => rfl
          | true =>
            rw [ho, if_pos rfl] at h1
            rw [if_pos rfl]
            cases hp : phis (b0.ins.take (j + 1)) with
            | false => rw [hp] at h1; simp at h1
            | true =>
              rw [hp, if_pos rfl] at h1
              have : phis ((dceRow need b0.ins).take (k + 1)) = true := by
                rw [take_one hx', htk]
                have h2 : phis (dceRow need (b0.ins.take j)) = true := dce_phis (phis_47 (by rw [← take_one hx]; exact hp))
                unfold phis at *
                rw [List.all_append, h2]
                simp [hop]; simpa using ho
              rw [this, if_pos rfl]
              exact h1
      · have h1 := hI.dst
        unfold badDst at *
        rw [dce_makes, hop]; exact h1
theorem dce_may {u : Unt} (h : MayP u) : MayP (dceUnit u) where
  main := by
    have h1 := h.main
    unfold badMain at *
    have hl : (dceUnit u).funcs.length = u.funcs.length := by unfold dceUnit; simp
    rw [hl]
    show (if decide (u.main < 0) = true then true else match atI (u.funcs.map dceFn) u.main with
      | some f => if (f.params != 0) = true then true else decide ((u.funcs.length : Int) > 64)
      | none => true) = false
    rw [atI_map]
    cases ha : atI u.funcs u.main with
    | none => rw [ha] at h1; exact h1
    | some f => rw [ha] at h1; exact h1
  points := by
    intro p hp
    have h1 := h.points p hp
    refine ⟨?_, ?_⟩
    · have h2 := h1.fn
      unfold badPt at *
      have hl : (dceUnit u).funcs.length = u.funcs.length := by unfold dceUnit; simp
      rw [hl]; exact h2
    · intro f' hf y hy
      change atI (u.funcs.map dceFn) p.func = some f' at hf
      rw [atI_map] at hf
      cases ha : atI u.funcs p.func with
      | none => rw [ha] at hf; cases hf
      | some f => rw [ha] at hf; cases hf; exact h1.scope f ha y hy
  funcs := by
    intro n f' hf
    change (u.funcs.map dceFn)[n]? = some f' at hf
    rw [List.getElem?_map] at hf
    cases ha : u.funcs[n]? with
    | none => rw [ha] at hf; cases hf
    | some f =>
      rw [ha] at hf; cases hf
      have h1 := h.funcs n f ha
      exact ⟨h1.words, dce_fnOk _ h1.fn⟩
theorem dceLaw_of {u : Unt} (h : SoundP u) (hm : Vm.Modest u) : DceLaw u := ⟨dceU_of hm h, dce_may h.may, dce_modest hm⟩
end Go.Proofs.Ytgoajlgkbcongaa.Vm
end
