/- Walks of the law of values: the law. Conditions: as the theorems say. -/
import Derived.Test.YtcmlghemanjaaaaLawWalks14b
set_option linter.unusedVariables false
set_option linter.unusedSimpArgs false
set_option maxRecDepth 10000
namespace Go.Proofs.Ytcmlghemanjaaaa
open Go Go.RowKit Sl Pg

set_option maxRecDepth 100000
theorem ag48 : Aggr Go.Proofs.Try.prog 48 5 := ⟨by kernel_rfl, by kernel_rfl⟩
theorem fa48_0 : (Go.Proofs.Try.prog.underlying 48).bind (fun | .struct fs => (fs[0]?).bind fun f => (Go.Proofs.Try.prog.info? f.type).map fun j => (f.offset, j.size == 0) | _ => none) = some (0, false) := by kernel_rfl
theorem fa48_1 : (Go.Proofs.Try.prog.underlying 48).bind (fun | .struct fs => (fs[1]?).bind fun f => (Go.Proofs.Try.prog.info? f.type).map fun j => (f.offset, j.size == 0) | _ => none) = some (1, false) := by kernel_rfl
theorem fa48_2 : (Go.Proofs.Try.prog.underlying 48).bind (fun | .struct fs => (fs[2]?).bind fun f => (Go.Proofs.Try.prog.info? f.type).map fun j => (f.offset, j.size == 0) | _ => none) = some (2, false) := by kernel_rfl
theorem fa48_3 : (Go.Proofs.Try.prog.underlying 48).bind (fun | .struct fs => (fs[3]?).bind fun f => (Go.Proofs.Try.prog.info? f.type).map fun j => (f.offset, j.size == 0) | _ => none) = some (3, false) := by kernel_rfl
theorem fa48_4 : (Go.Proofs.Try.prog.underlying 48).bind (fun | .struct fs => (fs[4]?).bind fun f => (Go.Proofs.Try.prog.info? f.type).map fun j => (f.offset, j.size == 0) | _ => none) = some (4, false) := by kernel_rfl
theorem sc5 : Scal Go.Proofs.Try.prog 5 := ⟨by kernel_rfl, by kernel_rfl⟩
theorem sz48 : (Go.Proofs.Try.prog.info? 48).map (·.size) = some 5 := by kernel_rfl
theorem sz5 : (Go.Proofs.Try.prog.info? 5).map (·.size) = some 1 := by kernel_rfl
theorem ze48 : TyZ Go.Proofs.Try.prog 48 (.agg #[(.int .u8 0), (.int .u8 0), (.int .u8 0), (.int .u8 0), (.int .u8 0)]) 5 5 := by unfold TyZ; kernel_rfl
set_option maxRecDepth 10000

set_option maxHeartbeats 2000000 in
theorem prog14_w (ins regs : Int) (ts : List Trn) (A : Option Addr) (n : Nat) (us : List Int) (Bo : Option Addr) (m : Nat) (hi : Byt ins) (hr : Byt regs) (ht : ∀ x ∈ ts, x.Ok) (hu : ∀ u ∈ us, Byt u) (hn : ts.length ≤ 9223372036854775807) (hm : us.length ≤ 9223372036854775807) :
    Tri Try.prog 5 #[.int .u8 ins, .int .u8 regs, .slice A ts.length n, .slice Bo us.length m] [roE encTr A ts, roE (encI .u8) Bo us] [] (fun v L' => ∃ C k D j, v = vPg (prog14 ins regs ts us) C k D j ∧ L' = [rowE encIn 50 C k (prog14 ins regs ts us).code, rowE (encI .i64) 3 D j (prog14 ins regs ts us).outs]) := by
  obtain ⟨hi3, hr4, hG⟩ : (0 ≤ ins.tmod 3 ∧ ins.tmod 3 < 3) ∧ (0 ≤ regs.tmod 4 ∧ regs.tmod 4 < 4) ∧ regs14 ins regs = 1 + ins.tmod 3 + regs.tmod 4 := ⟨tmod_bd hi.1 (by decide), tmod_bd hr.1 (by decide), rfl⟩
  refine Tri.of' 123 [.int .u8 ins, .int .u8 regs, .slice A ts.length n, .slice Bo us.length m] [(0, .int .u8 ins), (1, .int .u8 regs), (2, .slice A ts.length n), (3, .slice Bo us.length m)] Try.func5 Try.ntmps5 rfl rfl rfl ?_
  intro w0
  refine H.seq ?_
  refine H.region ?_
  refine HO.alloc ze29 rfl (ltn rfl) ?_
  intro b8
  refine HO.nil ?_
  refine HQ.next ?_
  refine H.seq ?_
  refine H.region ?_
  refine HO.v (V.move rfl) (ltn rfl) ?_
  refine HO.v (V.rem rfl rfl (by omega)) (ltn rfl) ?_
  refine HO.v (V.convI64 Try.underlying5 Try.underlying3 rfl (by omega)) (ltn rfl) ?_
  refine HO.v (V.add rfl rfl (by omega)) (ltn rfl) ?_
  refine HO.v (V.build ze29 pl29 rfl (.cons rfl (.nil)) (.cons rfl rfl rfl (by repeat constructor) (.nil))) (ltn rfl) ?_
  refine HO.alloc ze29 rfl (ltn rfl) ?_
  intro b9
  refine HO.store sz29 rfl rfl rfl rfl rfl (by exact .mk .here (by repeat constructor)) ?_
  refine HO.nil ?_
  refine HQ.keep (.cons (t := 1) rfl (.cons (t := 2) rfl (.cons (t := 3) rfl (.cons (t := 8) rfl (.cons (t := 9) rfl (.nil)))))) ?_
  refine HQ.next ?_
  refine H.seq ?_
  refine H.region ?_
  refine HO.v (V.fieldAddr (fs := #[]) fa29_0 rfl) (ltn rfl) ?_
  refine HO.v (V.load sc3 rfl (by exact .mk .here rfl)) (ltn rfl) ?_
  refine HO.v (V.move rfl) (ltn rfl) ?_
  refine HO.v (V.rem rfl rfl (by omega)) (ltn rfl) ?_
  refine HO.v (V.convI64 Try.underlying5 Try.underlying3 rfl (by omega)) (ltn rfl) ?_
  refine HO.v (V.add rfl rfl (by omega)) (ltn rfl) ?_
  refine HO.v (V.fieldAddr (fs := #[]) fa29_1 rfl) (ltn rfl) ?_
  refine HO.store sz3 rfl rfl rfl rfl rfl (by exact .mk .here (by repeat constructor)) ?_
  refine HO.nil ?_
  refine HQ.keep (.cons (t := 2) rfl (.cons (t := 3) rfl (.cons (t := 8) rfl (.cons (t := 9) rfl (.nil))))) ?_
  refine HQ.next ?_
  refine H.cut (σ := Option Addr × Nat) (fun s => [(3, .slice Bo us.length m), (8, .pointer (some ⟨b8, 0, none⟩)), (9, .pointer (some ⟨b9, 0, none⟩))]) (fun s => [cellsCh b8 29 [.int .i64 0, .int .i64 0, .slice none 0 0, .slice none 0 0], cellsCh b9 29 [.int .i64 (1 + ins.tmod 3), .int .i64 (regs14 ins regs), .slice s.1 ((ts.take 20).map (instr14 (regs14 ins regs))).length s.2, .slice none ([] : List Int).length 0], rowE encIn 50 s.1 s.2 ((ts.take 20).map (instr14 (regs14 ins regs)))]) (fun s => True) ?_ ?_
  · skip
    refine H.seq ?_
    refine H.region ?_
    refine HO.v (V.assign rfl) (ltn rfl) ?_
    refine HO.nil ?_
    refine HQ.next ?_
    refine H.block ?_
    refine H.loop (σ := Nat × Option Addr × Nat) (fun s => ts.length - s.1) (fun s => [(2, .slice A ts.length n), (3, .slice Bo us.length m), (8, .pointer (some ⟨b8, 0, none⟩)), (9, .pointer (some ⟨b9, 0, none⟩)), (10, .int .i64 ((s.1 : Nat) : Int))]) (fun s => [cellsCh b8 29 [.int .i64 0, .int .i64 0, .slice none 0 0, .slice none 0 0], cellsCh b9 29 [.int .i64 (1 + ins.tmod 3), .int .i64 (regs14 ins regs), .slice s.2.1 ((ts.take s.1).map (instr14 (regs14 ins regs))).length s.2.2, .slice none ([] : List Int).length 0], rowE encIn 50 s.2.1 s.2.2 ((ts.take s.1).map (instr14 (regs14 ins regs)))]) (fun s => s.1 ≤ 20 ∧ s.1 ≤ ts.length) ((0, none, 0)) ?_ ?_ ?_
    · exact ⟨by decide, Nat.zero_le _⟩
    · skip
      refine HQ.free (rowE encIn 50 none 0 ([] : List Ins)) rfl (fun w => OwnRow.nil w 50 5) ?_
      exact HQ.fits (.cons rfl (.cons rfl (.cons rfl (.cons rfl (.cons rfl (.nil)))))) (by exact Rems.cons (by exact (.there (.there .here))) (Rems.cons (by exact (.there .here)) (Rems.cons (by exact .here) (Rems.nil))))
    rintro ⟨k, Ck, ck⟩ ⟨hk20, hk⟩
    dsimp only at hk20 hk ⊢
    have hcl : ((ts.take k).map (instr14 (regs14 ins regs))).length = k := by (simp; omega)
    refine H.seq ?_
    refine H.seq ?_
    refine H.region ?_
    refine HO.v (V.move rfl) (ltn rfl) ?_
    refine HO.v (V.move rfl) (ltn rfl) ?_
    refine HO.v (V.len Try.underlying22 rfl) (ltn rfl) ?_
    refine HO.v (V.lss rfl rfl) (ltn rfl) ?_
    refine HO.v (V.move rfl) (ltn rfl) ?_
    refine HO.part (t := 30) rfl (fun g30 => ?_) (fun g30 => ?_)
    · skip
      try simp only [decide_eq_true_eq, decide_eq_false_iff_not, Bool.not_eq_true', Bool.not_eq_false'] at g30
      refine HO.gdo rfl rfl rfl rfl ?_
      refine HO.v (V.move rfl) (ltn rfl) ?_
      refine HO.gdo rfl rfl rfl rfl ?_
      refine HO.v (V.lss rfl rfl) (ltn rfl) ?_
      refine HO.v (V.pickT rfl rfl) (ltn rfl) ?_
      refine HO.nil ?_
      refine HQ.next ?_
      refine H.condB rfl (fun h33 => ?_) (fun h33 => ?_)
      · skip
        try simp only [decide_eq_true_eq, decide_eq_false_iff_not, Bool.not_eq_true', Bool.not_eq_false'] at h33
        obtain ⟨x, hx⟩ : ∃ x, ts[k]? = some x := ⟨_, List.getElem?_eq_getElem (by omega)⟩
        have hxo := ht x (List.mem_of_getElem? hx)
        have ho8 := tmod_bd hxo.op.1 (b := 8) (by decide)
        have hto := tmod_bd hxo.to.1 (b := regs14 ins regs) (by omega)
        have hta := tmod_bd hxo.a.1 (b := regs14 ins regs) (by omega)
        have htb := tmod_bd hxo.b.1 (b := regs14 ins regs) (by omega)
        have htc := tmod_bd hxo.c.1 (b := 3) (by decide)
        have hx1 := hxo.to
        have hx2 := hxo.a
        have hx3 := hxo.b
        unfold Byt at hx1 hx2 hx3
        have hop : op14 x = 1 + x.op.tmod 8 := rfl
        refine H.skip ?_
        refine HQ.next ?_
        refine H.seq ?_
        refine H.block ?_
        refine H.seq ?_
        refine H.region ?_
        refine HO.v (V.move rfl) (ltn rfl) ?_
        refine HO.v (V.move rfl) (ltn rfl) ?_
        refine HO.v (V.indexAddr (N := encTr) (ys := _) Try.underlying22 sz48 rfl rfl (by omega) (by omega) (by exact Has.ro (.head _))) (ltn rfl) ?_
        refine HO.v (V.loadEA (N := encTr) ag48 rfl (by exact .mk (Has.ro (.head _)) (hx) rfl)) (ltn rfl) ?_
        refine HO.alloc ze48 rfl (ltn rfl) ?_
        intro b11
        refine HO.store sz48 rfl rfl rfl rfl rfl (by exact .mk .here (by repeat constructor)) ?_
        refine HO.nil ?_
        refine HQ.next ?_
        refine H.seq ?_
        refine H.drawsP [cellsCh b9 _ _, cellsCh b11 _ _] [19] [[], [0], [1], [2], [3], [], [5], [6], [], [8], [7, 9], [], [11], [12], [], [14], [13, 15], [4, 10, 16], [], [18, 17, 0, 1, 2, 3, 4, 5, 6, 7, 8, 9, 10, 11, 12, 13, 14, 15, 16, 17, 18]] (.take 0 (.take 1 (.take 2 (.take 3 (.take 4 (.take 5 (.take 6 (.take 7 (.take 8 (.take 9 (.take 10 (.take 11 (.take 12 (.take 13 (.take 14 (.take 15 (.take 16 (.take 17 (.one 18 (.one 19 .done)))))))))))))))))))) (.cons (by exact (.tail _ (.tail _ (.head _)))) (.cons (by exact (.head _)) (.nil))) (by kernel_rfl) (by kernel_rfl) (by kernel_rfl) (by kernel_rfl) (by kernel_rfl) ?_
        refine HP.take (i := 0) rfl rfl (ltn rfl) (gives_of want_none (V.fieldAddr (fs := #[]) fa48_0 rfl)) (.cons (by exact (.tail _ (.tail _ (.head _)))) (.cons (by exact (.head _)) (Sub.nil))) ?_
        refine HP.take (i := 1) rfl rfl (ltn rfl) (gives_of want_none (V.load sc5 rfl (by exact .mk (.there .here) rfl))) (.cons (by exact (.tail _ (.tail _ (.head _)))) (.cons (by exact (.head _)) (Sub.nil))) ?_
        refine HP.take (i := 2) rfl rfl (ltn rfl) (gives_of want_none (V.rem rfl rfl (by omega))) (.cons (by exact (.tail _ (.tail _ (.head _)))) (.cons (by exact (.head _)) (Sub.nil))) ?_
        refine HP.take (i := 3) rfl rfl (ltn rfl) (gives_of want_none (V.convI64 Try.underlying5 Try.underlying3 rfl (by omega))) (.cons (by exact (.tail _ (.tail _ (.head _)))) (.cons (by exact (.head _)) (Sub.nil))) ?_
        refine HP.take (i := 4) rfl rfl (ltn rfl) (gives_of want_none (V.add rfl rfl (by omega))) (.cons (by exact (.tail _ (.tail _ (.head _)))) (.cons (by exact (.head _)) (Sub.nil))) ?_
        refine HP.take (i := 5) rfl rfl (ltn rfl) (gives_of want_none (V.fieldAddr (fs := #[]) fa48_1 rfl)) (.cons (by exact (.tail _ (.tail _ (.head _)))) (.cons (by exact (.head _)) (Sub.nil))) ?_
        refine HP.take (i := 6) rfl rfl (ltn rfl) (gives_of want_none (V.load sc5 rfl (by exact .mk (.there .here) rfl))) (.cons (by exact (.tail _ (.tail _ (.head _)))) (.cons (by exact (.head _)) (Sub.nil))) ?_
        refine HP.take (i := 7) rfl rfl (ltn rfl) (gives_of want_none (V.convI64 Try.underlying5 Try.underlying3 rfl (by omega))) (.cons (by exact (.tail _ (.tail _ (.head _)))) (.cons (by exact (.head _)) (Sub.nil))) ?_
        refine HP.take (i := 8) rfl rfl (ltn rfl) (gives_of want_none (V.fieldAddr (fs := #[]) fa29_1 rfl)) (.cons (by exact (.tail _ (.tail _ (.head _)))) (.cons (by exact (.head _)) (Sub.nil))) ?_
        refine HP.take (i := 9) rfl rfl (ltn rfl) (gives_of want_none (V.load sc3 rfl (by exact .mk .here rfl))) (.cons (by exact (.tail _ (.tail _ (.head _)))) (.cons (by exact (.head _)) (Sub.nil))) ?_
        refine HP.take (i := 10) rfl rfl (ltn rfl) (gives_of want_none (V.rem rfl rfl (by omega))) (.cons (by exact (.tail _ (.tail _ (.head _)))) (.cons (by exact (.head _)) (Sub.nil))) ?_
        refine HP.take (i := 11) rfl rfl (ltn rfl) (gives_of want_none (V.fieldAddr (fs := #[]) fa48_2 rfl)) (.cons (by exact (.tail _ (.tail _ (.head _)))) (.cons (by exact (.head _)) (Sub.nil))) ?_
        refine HP.take (i := 12) rfl rfl (ltn rfl) (gives_of want_none (V.load sc5 rfl (by exact .mk (.there .here) rfl))) (.cons (by exact (.tail _ (.tail _ (.head _)))) (.cons (by exact (.head _)) (Sub.nil))) ?_
        refine HP.take (i := 13) rfl rfl (ltn rfl) (gives_of want_none (V.convI64 Try.underlying5 Try.underlying3 rfl (by omega))) (.cons (by exact (.tail _ (.tail _ (.head _)))) (.cons (by exact (.head _)) (Sub.nil))) ?_
        refine HP.take (i := 14) rfl rfl (ltn rfl) (gives_of want_none (V.fieldAddr (fs := #[]) fa29_1 rfl)) (.cons (by exact (.tail _ (.tail _ (.head _)))) (.cons (by exact (.head _)) (Sub.nil))) ?_
        refine HP.take (i := 15) rfl rfl (ltn rfl) (gives_of want_none (V.load sc3 rfl (by exact .mk .here rfl))) (.cons (by exact (.tail _ (.tail _ (.head _)))) (.cons (by exact (.head _)) (Sub.nil))) ?_
        refine HP.take (i := 16) rfl rfl (ltn rfl) (gives_of want_none (V.rem rfl rfl (by omega))) (.cons (by exact (.tail _ (.tail _ (.head _)))) (.cons (by exact (.head _)) (Sub.nil))) ?_
        refine HP.take (i := 17) rfl rfl (ltn rfl) (gives_of want_none (V.build ze50 pl50 rfl (.cons rfl (.cons rfl (.cons rfl (.nil)))) (.cons rfl rfl rfl (by repeat constructor) (.cons rfl rfl rfl (by repeat constructor) (.cons rfl rfl rfl (by repeat constructor) (.nil)))))) (.cons (by exact (.tail _ (.tail _ (.head _)))) (.cons (by exact (.head _)) (Sub.nil))) ?_
        refine HP.one (i := 18) rfl ?_
        intro fuel listed hno haf hrp hpk hfs
        refine HO.alloc ze50 rfl (ltn rfl) ?_
        intro b12
        refine HO.nil ?_
        refine HQ.nxt hno haf hrp hpk hfs (.cons (by exact (.tail _ (.tail _ (.tail _ (.head _))))) (.cons (by exact (.tail _ (.head _))) (Sub.nil))) ?_
        refine HP.one (i := 19) rfl ?_
        intro fuel listed hno haf hrp hpk hfs
        refine HO.store sz50 rfl rfl rfl rfl rfl (by exact .mk .here (by repeat constructor)) ?_
        refine HO.nil ?_
        refine HQ.nxtF (m := 19) hno haf hrp hpk hfs (by decide) (by kernel_rfl) rfl ?_
        refine HP.done ?_
        refine HQ.next ?_
        refine H.cut (σ := Unit) (fun _ => [(2, .slice A ts.length n), (3, .slice Bo us.length m), (8, .pointer (some ⟨b8, 0, none⟩)), (9, .pointer (some ⟨b9, 0, none⟩)), (10, .int .i64 ((k : Nat) : Int)), (12, .pointer (some ⟨b12, 0, none⟩))]) (fun _ => [cellsCh b8 29 [.int .i64 0, .int .i64 0, .slice none 0 0, .slice none 0 0], cellsCh b9 29 [.int .i64 (1 + ins.tmod 3), .int .i64 (regs14 ins regs), .slice Ck ((ts.take k).map (instr14 (regs14 ins regs))).length ck, .slice none ([] : List Int).length 0], rowE encIn 50 Ck ck ((ts.take k).map (instr14 (regs14 ins regs))), cellsCh b12 50 [.int .i64 (instr14 (regs14 ins regs) x).op, .int .i64 (instr14 (regs14 ins regs) x).to, .int .i64 (instr14 (regs14 ins regs) x).a, .int .i64 (instr14 (regs14 ins regs) x).b, .int .i64 (instr14 (regs14 ins regs) x).c]]) (fun _ => True) ?_ ?_
        · skip
          refine H.block ?_
          refine H.seq ?_
          refine H.region ?_
          refine HO.v (V.fieldAddr (fs := #[]) fa50_0 rfl) (ltn rfl) ?_
          refine HO.v (V.load sc3 rfl (by exact .mk .here rfl)) (ltn rfl) ?_
          refine HO.v (V.eqlI rfl rfl) (ltn rfl) ?_
          refine HO.v (V.move rfl) (ltn rfl) ?_
          refine HO.part (t := 62) rfl (fun g62 => ?_) (fun g62 => ?_)
          · skip
            try simp only [decide_eq_true_eq, decide_eq_false_iff_not, Bool.not_eq_true', Bool.not_eq_false'] at g62
            refine HO.gskip rfl rfl rfl rfl (ltn rfl) ?_
            refine HO.gskip rfl rfl rfl rfl (ltn rfl) ?_
            refine HO.gskip rfl rfl rfl rfl (ltn rfl) ?_
            refine HO.v (V.pickT rfl rfl) (ltn rfl) ?_
            refine HO.v (V.assign rfl) (ltn rfl) ?_
            refine HO.nil ?_
            refine HQ.next ?_
            refine H.condT rfl rfl ?_
            refine H.region ?_
            refine HO.v (V.fieldAddr (fs := #[]) fa48_3 rfl) (ltn rfl) ?_
            refine HO.v (V.load sc5 rfl (by exact .mk (.there .here) rfl)) (ltn rfl) ?_
            refine HO.v (V.convI64 Try.underlying5 Try.underlying3 rfl (by omega)) (ltn rfl) ?_
            refine HO.v (V.fieldAddr (fs := #[]) fa29_1 rfl) (ltn rfl) ?_
            refine HO.v (V.load sc3 rfl (by exact .mk (.there (.there (.there .here))) rfl)) (ltn rfl) ?_
            refine HO.v (V.rem rfl rfl (by omega)) (ltn rfl) ?_
            refine HO.v (V.fieldAddr (fs := #[]) fa50_3 rfl) (ltn rfl) ?_
            refine HO.store sz3 rfl rfl rfl rfl rfl (by exact .mk .here (by repeat constructor)) ?_
            refine HO.nil ?_
            refine HQ.block_normal ?_
            rw [show (instr14 (regs14 ins regs) x).b = x.b.tmod (regs14 ins regs) by unfold instr14; exact if_pos (by omega), show (instr14 (regs14 ins regs) x).c = 0 by unfold instr14; exact if_pos (by omega)]
            refine HQ.cut (()) ?_ ?_
            · trivial
            · skip
              exact HQ.fits (.cons rfl (.cons rfl (.cons rfl (.cons rfl (.cons rfl (.cons rfl (.nil))))))) (by exact Rems.cons (by exact (.there (.there .here))) (Rems.cons (by exact (.there (.there .here))) (Rems.cons (by exact (.there (.there .here))) (Rems.cons (by exact .here) (Rems.nil)))))
          · skip
            try simp only [decide_eq_true_eq, decide_eq_false_iff_not, Bool.not_eq_true', Bool.not_eq_false'] at g62
            refine HO.gdo rfl rfl rfl rfl ?_
            refine HO.v (V.fieldAddr (fs := #[]) fa50_0 rfl) (ltn rfl) ?_
            refine HO.gdo rfl rfl rfl rfl ?_
            refine HO.v (V.load sc3 rfl (by exact .mk .here rfl)) (ltn rfl) ?_
            refine HO.gdo rfl rfl rfl rfl ?_
            refine HO.v (V.eqlI rfl rfl) (ltn rfl) ?_
            refine HO.v (V.pickF rfl rfl) (ltn rfl) ?_
            refine HO.v (V.assign rfl) (ltn rfl) ?_
            refine HO.nil ?_
            refine HQ.next ?_
            refine H.condB rfl (fun h58 => ?_) (fun h58 => ?_)
            · skip
              try simp only [decide_eq_true_eq, decide_eq_false_iff_not, Bool.not_eq_true', Bool.not_eq_false'] at h58
              refine H.region ?_
              refine HO.v (V.fieldAddr (fs := #[]) fa48_3 rfl) (ltn rfl) ?_
              refine HO.v (V.load sc5 rfl (by exact .mk (.there .here) rfl)) (ltn rfl) ?_
              refine HO.v (V.convI64 Try.underlying5 Try.underlying3 rfl (by omega)) (ltn rfl) ?_
              refine HO.v (V.fieldAddr (fs := #[]) fa29_1 rfl) (ltn rfl) ?_
              refine HO.v (V.load sc3 rfl (by exact .mk (.there (.there (.there .here))) rfl)) (ltn rfl) ?_
              refine HO.v (V.rem rfl rfl (by omega)) (ltn rfl) ?_
              refine HO.v (V.fieldAddr (fs := #[]) fa50_3 rfl) (ltn rfl) ?_
              refine HO.store sz3 rfl rfl rfl rfl rfl (by exact .mk .here (by repeat constructor)) ?_
              refine HO.nil ?_
              refine HQ.block_normal ?_
              rw [show (instr14 (regs14 ins regs) x).b = x.b.tmod (regs14 ins regs) by unfold instr14; exact if_pos (by omega), show (instr14 (regs14 ins regs) x).c = 0 by unfold instr14; exact if_pos (by omega)]
              refine HQ.cut (()) ?_ ?_
              · trivial
              · skip
                exact HQ.fits (.cons rfl (.cons rfl (.cons rfl (.cons rfl (.cons rfl (.cons rfl (.nil))))))) (by exact Rems.cons (by exact (.there (.there .here))) (Rems.cons (by exact (.there (.there .here))) (Rems.cons (by exact (.there (.there .here))) (Rems.cons (by exact .here) (Rems.nil)))))
            · skip
              try simp only [decide_eq_true_eq, decide_eq_false_iff_not, Bool.not_eq_true', Bool.not_eq_false'] at h58
              refine H.seq ?_
              refine H.region ?_
              refine HO.v (V.fieldAddr (fs := #[]) fa50_0 rfl) (ltn rfl) ?_
              refine HO.v (V.load sc3 rfl (by exact .mk .here rfl)) (ltn rfl) ?_
              refine HO.v (V.gtr rfl rfl) (ltn rfl) ?_
              refine HO.v (V.assign rfl) (ltn rfl) ?_
              refine HO.nil ?_
              refine HQ.next ?_
              refine H.condB rfl (fun h74 => ?_) (fun h74 => ?_)
              · skip
                try simp only [decide_eq_true_eq, decide_eq_false_iff_not, Bool.not_eq_true', Bool.not_eq_false'] at h74
                refine H.region ?_
                refine HO.v (V.fieldAddr (fs := #[]) fa48_4 rfl) (ltn rfl) ?_
                refine HO.v (V.load sc5 rfl (by exact .mk (.there .here) rfl)) (ltn rfl) ?_
                refine HO.v (V.rem rfl rfl (by omega)) (ltn rfl) ?_
                refine HO.v (V.convI64 Try.underlying5 Try.underlying3 rfl (by omega)) (ltn rfl) ?_
                refine HO.v (V.add rfl rfl (by omega)) (ltn rfl) ?_
                refine HO.v (V.fieldAddr (fs := #[]) fa50_4 rfl) (ltn rfl) ?_
                refine HO.store sz3 rfl rfl rfl rfl rfl (by exact .mk .here (by repeat constructor)) ?_
                refine HO.nil ?_
                refine HQ.block_normal ?_
                rw [show (instr14 (regs14 ins regs) x).b = 0 by unfold instr14; exact if_neg (by omega), show (instr14 (regs14 ins regs) x).c = 1 + x.c.tmod 3 by unfold instr14; dsimp only; rw [if_neg (by omega), if_pos (by omega)]]
                refine HQ.cut (()) ?_ ?_
                · trivial
                · skip
                  exact HQ.fits (.cons rfl (.cons rfl (.cons rfl (.cons rfl (.cons rfl (.cons rfl (.nil))))))) (by exact Rems.cons (by exact (.there (.there .here))) (Rems.cons (by exact (.there (.there .here))) (Rems.cons (by exact (.there (.there .here))) (Rems.cons (by exact .here) (Rems.nil)))))
              · skip
                try simp only [decide_eq_true_eq, decide_eq_false_iff_not, Bool.not_eq_true', Bool.not_eq_false'] at h74
                refine H.skip ?_
                refine HQ.block_normal ?_
                rw [show (instr14 (regs14 ins regs) x).b = 0 by unfold instr14; exact if_neg (by omega), show (instr14 (regs14 ins regs) x).c = 0 by unfold instr14; dsimp only; rw [if_neg (by omega), if_neg (by omega)]]
                refine HQ.cut (()) ?_ ?_
                · trivial
                · skip
                  exact HQ.fits (.cons rfl (.cons rfl (.cons rfl (.cons rfl (.cons rfl (.cons rfl (.nil))))))) (by exact Rems.cons (by exact (.there (.there .here))) (Rems.cons (by exact (.there (.there .here))) (Rems.cons (by exact (.there (.there .here))) (Rems.cons (by exact .here) (Rems.nil)))))
        intro _ _
        refine H.region ?_
        refine HO.v (V.fieldAddr (fs := #[]) fa29_2 rfl) (ltn rfl) ?_
        refine HO.v (V.load sc26 rfl (by exact .mk (.there .here) rfl)) (ltn rfl) ?_
        refine HO.v (V.loadA ag50 rfl (by exact .mk (.there (.there (.there .here))) (by repeat constructor))) (ltn rfl) ?_
        refine HO.buildRow encIn ([instr14 (regs14 ins regs) x]) Try.underlying26 ze50 (.cons rfl (.nil)) (.cons rfl (.nil)) (Nat.le_of_ble_eq_true rfl) (Nat.le_of_ble_eq_true rfl) (ltn rfl) ?_
        intro b87
        refine HO.append (N := encIn) (zs := [instr14 (regs14 ins regs) x]) Try.underlying26 ze50 rfl rfl rfl (by exact (.there (.there (.there .here)))) (by exact Has.own .here) (by first | omega | (simp; omega)) (by decide) (ltn rfl) ?_
        intro A88 c88
        refine HO.v (V.fieldAddr (fs := #[]) fa29_2 rfl) (ltn rfl) ?_
        refine HO.store sz26 rfl rfl rfl rfl rfl (by exact .mk (.there (.there (.there .here))) (by repeat constructor)) ?_
        refine HO.nil ?_
        refine HQ.block_normal ?_
        refine HQ.next ?_
        refine H.region ?_
        rw [show ((ts.take k).map (instr14 (regs14 ins regs))) ++ [instr14 (regs14 ins regs) x] = ((ts.take (k + 1)).map (instr14 (regs14 ins regs))) by rw [take_snoc' hx, List.map_append]; rfl]
        refine HO.v (V.move rfl) (ltn rfl) ?_
        refine HO.v (V.add rfl rfl (by omega)) (ltn rfl) ?_
        refine HO.v (V.assign rfl) (ltn rfl) ?_
        refine HO.nil ?_
        refine HQ.round ((k + 1, A88, c88)) ?_ ?_ ?_
        · exact ⟨by dsimp only; omega, by dsimp only; omega⟩
        · (dsimp only; omega)
        · skip
          exact HQ.fits (.cons rfl (.cons rfl (.cons rfl (.cons rfl (.cons rfl (.nil)))))) (by exact Rems.cons (by exact (.there (.there (.there .here)))) (Rems.cons (by exact .here) (Rems.cons (by exact .here) (Rems.nil))))
      · skip
        try simp only [decide_eq_true_eq, decide_eq_false_iff_not, Bool.not_eq_true', Bool.not_eq_false'] at h33
        refine H.exit ?_
        refine HQ.then_exit ?_
        refine HQ.then_exit ?_
        refine HQ.exit_hit ?_
        have hk20e : ts.take k = ts.take 20 := take_stop hk20 hk (by omega)
        rw [hk20e]
        refine HQ.cut ((Ck, ck)) ?_ ?_
        · trivial
        · skip
          exact HQ.fits (.cons rfl (.cons rfl (.cons rfl (.nil)))) (by exact Rems.cons (by exact .here) (Rems.cons (by exact .here) (Rems.cons (by exact .here) (Rems.nil))))
    · skip
      try simp only [decide_eq_true_eq, decide_eq_false_iff_not, Bool.not_eq_true', Bool.not_eq_false'] at g30
      refine HO.gskip rfl rfl rfl rfl (ltn rfl) ?_
      refine HO.gskip rfl rfl rfl rfl (ltn rfl) ?_
      refine HO.v (V.pickF rfl rfl) (ltn rfl) ?_
      refine HO.nil ?_
      refine HQ.next ?_
      refine H.condF rfl rfl ?_
      refine H.exit ?_
      refine HQ.then_exit ?_
      refine HQ.then_exit ?_
      refine HQ.exit_hit ?_
      have hk20e : ts.take k = ts.take 20 := take_stop hk20 hk (by omega)
      rw [hk20e]
      refine HQ.cut ((Ck, ck)) ?_ ?_
      · trivial
      · skip
        exact HQ.fits (.cons rfl (.cons rfl (.cons rfl (.nil)))) (by exact Rems.cons (by exact .here) (Rems.cons (by exact .here) (Rems.cons (by exact .here) (Rems.nil))))
  rintro ⟨Ck, ck⟩ _
  dsimp only
  refine H.cut (σ := Option Addr × Nat) (fun s => [(8, .pointer (some ⟨b8, 0, none⟩)), (9, .pointer (some ⟨b9, 0, none⟩))]) (fun s => [cellsCh b8 29 [.int .i64 0, .int .i64 0, .slice none 0 0, .slice none 0 0], cellsCh b9 29 [.int .i64 (1 + ins.tmod 3), .int .i64 (regs14 ins regs), .slice Ck ((ts.take 20).map (instr14 (regs14 ins regs))).length ck, .slice s.1 ((us.take 4).map (·.tmod (regs14 ins regs))).length s.2], rowE encIn 50 Ck ck ((ts.take 20).map (instr14 (regs14 ins regs))), rowE (encI .i64) 3 s.1 s.2 ((us.take 4).map (·.tmod (regs14 ins regs)))]) (fun s => True) ?_ ?_
  · skip
    refine H.seq ?_
    refine H.region ?_
    refine HO.v (V.assign rfl) (ltn rfl) ?_
    refine HO.nil ?_
    refine HQ.next ?_
    refine H.block ?_
    refine H.loop (σ := Nat × Option Addr × Nat) (fun s => us.length - s.1) (fun s => [(3, .slice Bo us.length m), (8, .pointer (some ⟨b8, 0, none⟩)), (9, .pointer (some ⟨b9, 0, none⟩)), (13, .int .i64 ((s.1 : Nat) : Int))]) (fun s => [cellsCh b8 29 [.int .i64 0, .int .i64 0, .slice none 0 0, .slice none 0 0], cellsCh b9 29 [.int .i64 (1 + ins.tmod 3), .int .i64 (regs14 ins regs), .slice Ck ((ts.take 20).map (instr14 (regs14 ins regs))).length ck, .slice s.2.1 ((us.take s.1).map (·.tmod (regs14 ins regs))).length s.2.2], rowE encIn 50 Ck ck ((ts.take 20).map (instr14 (regs14 ins regs))), rowE (encI .i64) 3 s.2.1 s.2.2 ((us.take s.1).map (·.tmod (regs14 ins regs)))]) (fun s => s.1 ≤ 4 ∧ s.1 ≤ us.length) ((0, none, 0)) ?_ ?_ ?_
    · exact ⟨by decide, Nat.zero_le _⟩
    · skip
      refine HQ.free (rowE (encI .i64) 3 none 0 ([] : List Int)) rfl (fun w => OwnRow.nil w 3 1) ?_
      exact HQ.fits (.cons rfl (.cons rfl (.cons rfl (.cons rfl (.nil))))) (by exact Rems.cons (by exact (.there .here)) (Rems.cons (by exact (.there .here)) (Rems.cons (by exact (.there .here)) (Rems.cons (by exact .here) (Rems.nil)))))
    rintro ⟨q, Dq, dq⟩ ⟨hq4, hq⟩
    dsimp only at hq4 hq ⊢
    have hol : ((us.take q).map (·.tmod (regs14 ins regs))).length = q := by (simp; omega)
    refine H.seq ?_
    refine H.seq ?_
    refine H.region ?_
    refine HO.v (V.move rfl) (ltn rfl) ?_
    refine HO.v (V.move rfl) (ltn rfl) ?_
    refine HO.v (V.len Try.underlying23 rfl) (ltn rfl) ?_
    refine HO.v (V.lss rfl rfl) (ltn rfl) ?_
    refine HO.v (V.move rfl) (ltn rfl) ?_
    refine HO.part (t := 94) rfl (fun g94 => ?_) (fun g94 => ?_)
    · skip
      try simp only [decide_eq_true_eq, decide_eq_false_iff_not, Bool.not_eq_true', Bool.not_eq_false'] at g94
      refine HO.gdo rfl rfl rfl rfl ?_
      refine HO.v (V.move rfl) (ltn rfl) ?_
      refine HO.gdo rfl rfl rfl rfl ?_
      refine HO.v (V.lss rfl rfl) (ltn rfl) ?_
      refine HO.v (V.pickT rfl rfl) (ltn rfl) ?_
      refine HO.nil ?_
      refine HQ.next ?_
      refine H.condB rfl (fun h97 => ?_) (fun h97 => ?_)
      · skip
        try simp only [decide_eq_true_eq, decide_eq_false_iff_not, Bool.not_eq_true', Bool.not_eq_false'] at h97
        obtain ⟨u, hx⟩ : ∃ u, us[q]? = some u := ⟨_, List.getElem?_eq_getElem (by omega)⟩
        have huo := hu u (List.mem_of_getElem? hx)
        unfold Byt at huo
        refine H.skip ?_
        refine HQ.next ?_
        refine H.seq ?_
        refine H.block ?_
        refine H.drawsP [cellsCh b9 _ _] [13] [[], [0], [], [], [2, 3], [4], [5], [], [7], [6, 8], [9], [1, 10], [0, 1, 2, 3, 4, 5, 6, 7, 8, 9, 10, 11], [12, 11, 11, 0, 1, 2, 3, 4, 5, 6, 7, 8, 9, 10, 11]] (.take 0 (.take 1 (.take 2 (.take 3 (.take 4 (.take 5 (.take 6 (.take 7 (.take 8 (.take 9 (.one 10 (.one 11 (.take 12 (.one 13 .done)))))))))))))) (.cons (by exact (.tail _ (.head _))) (.nil)) (by kernel_rfl) (by kernel_rfl) (by kernel_rfl) (by kernel_rfl) (by kernel_rfl) ?_
        refine HP.take (i := 0) rfl rfl (ltn rfl) (gives_of want_none (V.fieldAddr (fs := #[]) fa29_3 rfl)) (.cons (by exact (.tail _ (.head _))) (Sub.nil)) ?_
        refine HP.take (i := 1) rfl rfl (ltn rfl) (gives_of want_none (V.load sc27 rfl (by exact .mk .here rfl))) (.cons (by exact (.tail _ (.head _))) (Sub.nil)) ?_
        refine HP.take (i := 2) rfl rfl (ltn rfl) (gives_of want_none (V.move rfl)) (.cons (by exact (.tail _ (.head _))) (Sub.nil)) ?_
        refine HP.take (i := 3) rfl rfl (ltn rfl) (gives_of want_none (V.move rfl)) (.cons (by exact (.tail _ (.head _))) (Sub.nil)) ?_
        refine HP.take (i := 4) rfl rfl (ltn rfl) (gives_of want_none (V.indexAddr (N := (encI .u8)) (ys := _) Try.underlying23 sz5 rfl rfl (by omega) (by omega) (by exact Has.ro (.tail _ (.head _))))) (.cons (by exact (.tail _ (.head _))) (Sub.nil)) ?_
        refine HP.take (i := 5) rfl rfl (ltn rfl) (gives_of want_none (V.loadE (N := (encI .u8)) sc5 rfl (by exact .mk (Has.ro (.tail _ (.head _))) (hx) rfl))) (.cons (by exact (.tail _ (.head _))) (Sub.nil)) ?_
        refine HP.take (i := 6) rfl rfl (ltn rfl) (gives_of want_none (V.convI64 Try.underlying5 Try.underlying3 rfl (by omega))) (.cons (by exact (.tail _ (.head _))) (Sub.nil)) ?_
        refine HP.take (i := 7) rfl rfl (ltn rfl) (gives_of want_none (V.fieldAddr (fs := #[]) fa29_1 rfl)) (.cons (by exact (.tail _ (.head _))) (Sub.nil)) ?_
        refine HP.take (i := 8) rfl rfl (ltn rfl) (gives_of want_none (V.load sc3 rfl (by exact .mk .here rfl))) (.cons (by exact (.tail _ (.head _))) (Sub.nil)) ?_
        refine HP.take (i := 9) rfl rfl (ltn rfl) (gives_of want_none (V.rem rfl rfl (by omega))) (.cons (by exact (.tail _ (.head _))) (Sub.nil)) ?_
        refine HP.one (i := 10) rfl ?_
        intro fuel listed hno haf hrp hpk hfs
        refine HO.buildRow (encI .i64) ([u.tmod (regs14 ins regs)]) Try.underlying27 ze3 (.cons rfl (.nil)) (.cons rfl (.nil)) (Nat.le_of_ble_eq_true rfl) (Nat.le_of_ble_eq_true rfl) (ltn rfl) ?_
        intro b110
        refine HO.nil ?_
        refine HQ.nxt hno haf hrp hpk hfs (.cons (by exact (.tail _ (.tail _ (.head _)))) (Sub.nil)) ?_
        refine HP.one (i := 11) rfl ?_
        intro fuel listed hno haf hrp hpk hfs
        refine HO.append (N := (encI .i64)) (zs := [u.tmod (regs14 ins regs)]) Try.underlying27 ze3 rfl rfl rfl (by exact (.there (.there (.there (.there .here))))) (by exact Has.own .here) (by first | omega | (simp; omega)) (by decide) (ltn rfl) ?_
        intro A111 c111
        refine HO.nil ?_
        refine HQ.nxt hno haf hrp hpk hfs (.cons (by exact (.tail _ (.tail _ (.tail _ (.head _))))) (Sub.nil)) ?_
        refine HP.take (i := 12) rfl rfl (ltn rfl) (gives_of want_none (V.fieldAddr (fs := #[]) fa29_3 rfl)) (.cons (by exact (.tail _ (.tail _ (.tail _ (.head _))))) (Sub.nil)) ?_
        refine HP.one (i := 13) rfl ?_
        intro fuel listed hno haf hrp hpk hfs
        refine HO.store sz27 rfl rfl rfl rfl rfl (by exact .mk (.there (.there (.there .here))) (by repeat constructor)) ?_
        refine HO.nil ?_
        refine HQ.nxtF (m := 13) hno haf hrp hpk hfs (by decide) (by kernel_rfl) rfl ?_
        refine HP.done ?_
        refine HQ.block_normal ?_
        refine HQ.next ?_
        refine H.region ?_
        rw [show ((us.take q).map (·.tmod (regs14 ins regs))) ++ [u.tmod (regs14 ins regs)] = ((us.take (q + 1)).map (·.tmod (regs14 ins regs))) by rw [take_snoc' hx, List.map_append]; rfl]
        refine HO.v (V.move rfl) (ltn rfl) ?_
        refine HO.v (V.add rfl rfl (by omega)) (ltn rfl) ?_
        refine HO.v (V.assign rfl) (ltn rfl) ?_
        refine HO.nil ?_
        refine HQ.round ((q + 1, A111, c111)) ?_ ?_ ?_
        · exact ⟨by dsimp only; omega, by dsimp only; omega⟩
        · (dsimp only; omega)
        · skip
          exact HQ.fits (.cons rfl (.cons rfl (.cons rfl (.cons rfl (.nil))))) (by exact Rems.cons (by exact (.there (.there (.there .here)))) (Rems.cons (by exact .here) (Rems.cons (by exact (.there (.there .here))) (Rems.cons (by exact .here) (Rems.nil)))))
      · skip
        try simp only [decide_eq_true_eq, decide_eq_false_iff_not, Bool.not_eq_true', Bool.not_eq_false'] at h97
        refine H.exit ?_
        refine HQ.then_exit ?_
        refine HQ.then_exit ?_
        refine HQ.exit_hit ?_
        have hq4e : us.take q = us.take 4 := take_stop hq4 hq (by omega)
        rw [hq4e]
        refine HQ.cut ((Dq, dq)) ?_ ?_
        · trivial
        · skip
          exact HQ.fits (.cons rfl (.cons rfl (.nil))) (by exact Rems.cons (by exact .here) (Rems.cons (by exact .here) (Rems.cons (by exact .here) (Rems.cons (by exact .here) (Rems.nil)))))
    · skip
      try simp only [decide_eq_true_eq, decide_eq_false_iff_not, Bool.not_eq_true', Bool.not_eq_false'] at g94
      refine HO.gskip rfl rfl rfl rfl (ltn rfl) ?_
      refine HO.gskip rfl rfl rfl rfl (ltn rfl) ?_
      refine HO.v (V.pickF rfl rfl) (ltn rfl) ?_
      refine HO.nil ?_
      refine HQ.next ?_
      refine H.condF rfl rfl ?_
      refine H.exit ?_
      refine HQ.then_exit ?_
      refine HQ.then_exit ?_
      refine HQ.exit_hit ?_
      have hq4e : us.take q = us.take 4 := take_stop hq4 hq (by omega)
      rw [hq4e]
      refine HQ.cut ((Dq, dq)) ?_ ?_
      · trivial
      · skip
        exact HQ.fits (.cons rfl (.cons rfl (.nil))) (by exact Rems.cons (by exact .here) (Rems.cons (by exact .here) (Rems.cons (by exact .here) (Rems.cons (by exact .here) (Rems.nil)))))
  rintro ⟨Dq, dq⟩ _
  dsimp only
  refine H.seq ?_
  refine H.seq ?_
  refine H.region ?_
  refine HO.v (V.fieldAddr (fs := #[]) fa29_3 rfl) (ltn rfl) ?_
  refine HO.v (V.load sc27 rfl (by exact .mk (.there .here) rfl)) (ltn rfl) ?_
  refine HO.v (V.len Try.underlying27 rfl) (ltn rfl) ?_
  refine HO.v (V.eqlI rfl rfl) (ltn rfl) ?_
  refine HO.nil ?_
  refine HQ.next ?_
  refine H.condB rfl (fun h116 => ?_) (fun h116 => ?_)
  · skip
    try simp only [decide_eq_true_eq, decide_eq_false_iff_not, Bool.not_eq_true', Bool.not_eq_false'] at h116
    refine H.region ?_
    refine HO.v (V.fieldAddr (fs := #[]) fa29_1 rfl) (ltn rfl) ?_
    refine HO.v (V.load sc3 rfl (by exact .mk (.there .here) rfl)) (ltn rfl) ?_
    refine HO.v (V.sub rfl rfl (by omega)) (ltn rfl) ?_
    refine HO.buildRow (encI .i64) ([regs14 ins regs - 1]) Try.underlying27 ze3 (.cons rfl (.nil)) (.cons rfl (.nil)) (Nat.le_of_ble_eq_true rfl) (Nat.le_of_ble_eq_true rfl) (ltn rfl) ?_
    intro b120
    refine HO.v (V.fieldAddr (fs := #[]) fa29_3 rfl) (ltn rfl) ?_
    refine HO.store sz27 rfl rfl rfl rfl rfl (by exact .mk (.there (.there .here)) (by repeat constructor)) ?_
    refine HO.nil ?_
    refine HQ.keep (.cons (t := 8) rfl (.cons (t := 9) rfl (.nil))) ?_
    refine HQ.next ?_
    refine H.seq ?_
    refine H.region ?_
    refine HO.v (V.loadA ag29 rfl (by exact .mk .here (by repeat constructor))) (ltn rfl) ?_
    refine HO.store sz29 rfl rfl rfl rfl rfl (by exact .mk (.there (.there .here)) (by repeat constructor)) ?_
    refine HO.nil ?_
    refine HQ.next ?_
    refine H.ret ?_
    have ho : (prog14 ins regs ts us).outs = [regs14 ins regs - 1] := by (show outs14 _ _ = _; unfold outs14; rw [if_pos (by simpa using h116)])
    have hc : (prog14 ins regs ts us).code = ((ts.take 20).map (instr14 (regs14 ins regs))) := rfl
    rw [← ho, ← hc]
    refine HQ.end_ rfl rfl rfl rfl (.inl rfl) _ (fun a w s => resR1 Try.results5 s (.agg ag29 rfl (by exact .mk .here (by repeat constructor)))) ?_
    refine ⟨[rowE encIn 50 Ck ck (prog14 ins regs ts us).code, rowE (encI .i64) 3 (some ⟨b120, 0, none⟩) _ (prog14 ins regs ts us).outs], _, (by exact Rems.cons (by exact (.there (.there (.there .here)))) (Rems.cons (by exact (.there (.there .here))) (Rems.nil))), ?_⟩
    exact ⟨_, _, _, _, rfl, rfl⟩
  · skip
    try simp only [decide_eq_true_eq, decide_eq_false_iff_not, Bool.not_eq_true', Bool.not_eq_false'] at h116
    refine H.skip ?_
    refine HQ.next ?_
    refine H.seq ?_
    refine H.region ?_
    refine HO.v (V.loadA ag29 rfl (by exact .mk (.there .here) (by repeat constructor))) (ltn rfl) ?_
    refine HO.store sz29 rfl rfl rfl rfl rfl (by exact .mk .here (by repeat constructor)) ?_
    refine HO.nil ?_
    refine HQ.keep (.cons (t := 8) rfl (.nil)) ?_
    refine HQ.next ?_
    refine H.ret ?_
    have ho : (prog14 ins regs ts us).outs = ((us.take 4).map (·.tmod (regs14 ins regs))) := by (show outs14 _ _ = _; unfold outs14; rw [if_neg (by simpa using h116)])
    have hc : (prog14 ins regs ts us).code = ((ts.take 20).map (instr14 (regs14 ins regs))) := rfl
    rw [← ho, ← hc]
    refine HQ.end_ rfl rfl rfl rfl (.inl rfl) _ (fun a w s => resR1 Try.results5 s (.agg ag29 rfl (by exact .mk .here (by repeat constructor)))) ?_
    refine ⟨[rowE encIn 50 Ck ck (prog14 ins regs ts us).code, rowE (encI .i64) 3 Dq dq (prog14 ins regs ts us).outs], _, (by exact Rems.cons (by exact (.there (.there .here))) (Rems.cons (by exact (.there (.there .here))) (Rems.nil))), ?_⟩
    exact ⟨_, _, _, _, rfl, rfl⟩

end Go.Proofs.Ytcmlghemanjaaaa
