/- Walks of the law of plain forms. Conditions: as the theorems say. -/
import Derived.Test.YtmkoadgphhkfgaaDoorFoldWalks4
import Derived.Test.YtmkoadgphhkfgaaDoorPgE
set_option linter.unusedVariables false
set_option linter.unusedSimpArgs false
set_option maxRecDepth 10000
namespace Go.Proofs.YtmkoadgphhkfgaaDoor
open Go Go.RowKit Sl Pg

set_option maxRecDepth 100000
theorem ag29 : Aggr Go.Proofs.Tryd.prog 29 5 := ⟨by kernel_rfl, by kernel_rfl⟩
theorem ca11 : Callable Go.Proofs.Tryd.prog 11 := by unfold Callable; kernel_rfl
theorem ca13 : Callable Go.Proofs.Tryd.prog 13 := by unfold Callable; kernel_rfl
theorem ca15 : Callable Go.Proofs.Tryd.prog 15 := by unfold Callable; kernel_rfl
theorem ca16 : Callable Go.Proofs.Tryd.prog 16 := by unfold Callable; kernel_rfl
theorem ca17 : Callable Go.Proofs.Tryd.prog 17 := by unfold Callable; kernel_rfl
theorem ca5 : Callable Go.Proofs.Tryd.prog 5 := by unfold Callable; kernel_rfl
theorem ca6 : Callable Go.Proofs.Tryd.prog 6 := by unfold Callable; kernel_rfl
theorem ca7 : Callable Go.Proofs.Tryd.prog 7 := by unfold Callable; kernel_rfl
theorem sz29 : (Go.Proofs.Tryd.prog.info? 29).map (·.size) = some 5 := by kernel_rfl
set_option maxRecDepth 10000

set_option maxHeartbeats 4000000 in
theorem melted13_w (code : List Ins) (A : Option Addr) (n : Nat) (outs : List Int) (B : Option Addr) (m : Nat) (hv : Right ⟨2, 3, code, outs⟩) (hcap : code.length ≤ n) :
    Tri Tryd.prog 6 #[.slice A code.length n, .slice B outs.length m] [tabCh, roE encIn A code, roE (encI .i64) B outs] [] (fun v L' => v = .tuple #[.int .i64 ((passF code).length : Nat), .bool true] ∧ L' = []) := by
  have hlc : code.length ≤ 16384 := hv.code
  have hlo : outs.length ≤ 128 := hv.outs2
  have hlp := passF_length code
  refine Tri.of' 165 [.slice A code.length n, .slice B outs.length m] [(0, .slice A code.length n), (1, .slice B outs.length m)] Tryd.func6 Tryd.ntmps6 rfl rfl rfl ?_
  intro w0
  refine H.seq ?_
  refine H.region ?_
  refine HO.v (V.assign rfl) (ltn rfl) ?_
  refine HO.v (V.assign rfl) (ltn rfl) ?_
  refine HO.nil ?_
  refine HQ.next ?_
  refine H.seq ?_
  refine H.seq ?_
  refine H.region ?_
  refine HO.v (V.move rfl) (ltn rfl) ?_
  refine HO.v (V.len Tryd.underlying24 rfl) (ltn rfl) ?_
  refine HO.v (V.move rfl) (ltn rfl) ?_
  refine HO.nil ?_
  refine HQ.next ?_
  refine H.block ?_
  refine H.loop (σ := Nat) (fun s => code.length - s) (fun s => [(0, .slice A code.length n), (1, .slice B outs.length m), (23, .slice A code.length n), (24, .int .i64 ((code.length : Nat) : Int)), (25, .int .i64 ((s : Nat) : Int))]) (fun s => []) (fun s => s ≤ code.length) (0) ?_ ?_ ?_
  · exact Nat.zero_le _
  · skip
    exact HQ.fits (.cons rfl (.cons rfl (.cons rfl (.cons rfl (.cons rfl (.nil)))))) (by exact Rems.nil)
  intro k hk
  try dsimp only at hk ⊢
  refine H.seq ?_
  refine H.region ?_
  refine HO.v (V.lss rfl rfl) (ltn rfl) ?_
  refine HO.nil ?_
  refine HQ.next ?_
  refine H.seq ?_
  refine H.condB rfl (fun h26 => ?_) (fun h26 => ?_)
  · skip
    try simp only [decide_eq_true_eq, decide_eq_false_iff_not, Bool.not_eq_true', Bool.not_eq_false', insL] at h26
    obtain ⟨zs, i, ys, rfl, rfl⟩ := split_at (l := code) (k := k) (by omega)
    have hmi : May i 128 := hv.may128 i (by simp)
    have hi : (zs ++ i :: ys)[zs.length]? = some i := by simp
    refine H.skip ?_
    refine HQ.next ?_
    refine H.seq ?_
    refine H.block ?_
    refine H.seq ?_
    refine H.region ?_
    refine HO.v (V.move rfl) (ltn rfl) ?_
    refine HO.v (V.indexAddr (N := encIn) (ys := _) Tryd.underlying24 sz26 rfl rfl (by first | omega | (simp; omega)) (by first | omega | (simp; omega)) (by exact Has.ro (.tail _ (.head _)))) (ltn rfl) ?_
    refine HO.v (V.loadEA (N := encIn) ag26 rfl (by exact .mk (Has.ro (.tail _ (.head _))) (hi) rfl)) (ltn rfl) ?_
    refine HO.alloc ze26 rfl (ltn rfl) ?_
    intro b7
    refine HO.v (V.assign rfl) (ltn rfl) ?_
    refine HO.store sz26 rfl rfl rfl rfl rfl (by exact .mk .here (by repeat constructor)) ?_
    refine HO.nil ?_
    refine HQ.next ?_
    refine H.seq ?_
    refine H.region ?_
    refine HO.v (V.loadA ag26 rfl (by exact .mk .here (by repeat constructor))) (ltn rfl) ?_
    refine HO.call ca11 (.cons rfl (.nil)) (Plain_w i hmi) (by exact Rems.nil) (by (refine Reads.ro (.head _) ?_); exact Reads.nil) (ltn rfl) ?_
    rintro v32 L32 ⟨rfl, rfl⟩
    dsimp only [List.nil_append, List.cons_append]
    refine HO.v (V.move rfl) (ltn rfl) ?_
    refine HO.v (V.extract rfl rfl) (ltn rfl) ?_
    refine HO.v (V.extract rfl rfl) (ltn rfl) ?_
    refine HO.alloc ze26 rfl (ltn rfl) ?_
    intro b8
    refine HO.store sz26 rfl rfl rfl rfl rfl (by exact .mk .here (by repeat constructor)) ?_
    refine HO.v (V.assign rfl) (ltn rfl) ?_
    refine HO.nil ?_
    refine HQ.next ?_
    refine H.seq ?_
    refine H.seq ?_
    refine H.region ?_
    refine HO.v (V.loadA ag26 rfl (by exact .mk (.there .here) (by repeat constructor))) (ltn rfl) ?_
    refine HO.call ca12 (.cons rfl (.nil)) (plain13_w i (cok_bd (op := i.op) hmi.c)) (by exact Rems.nil) (by exact Reads.nil) (ltn rfl) ?_
    rintro v36 L36 ⟨rfl, rfl⟩
    dsimp only [List.nil_append, List.cons_append]
    refine HO.alloc ze26 rfl (ltn rfl) ?_
    intro b10
    refine HO.store sz26 rfl rfl rfl rfl rfl (by exact .mk .here (by repeat constructor)) ?_
    refine HO.nil ?_
    refine HQ.next ?_
    refine H.seq ?_
    refine H.region ?_
    refine HO.v (V.move rfl) (ltn rfl) ?_
    refine HO.v (V.loadA ag26 rfl (by exact .mk .here (by repeat constructor))) (ltn rfl) ?_
    refine HO.v (V.loadA ag26 rfl (by exact .mk (.there (.there .here)) (by repeat constructor))) (ltn rfl) ?_
    refine HO.v (V.neqS [_, _, _, _, _] [_, _, _, _, _] if26 rfl rfl rfl rfl) (ltn rfl) ?_
    refine HO.v (V.neqB Tryd.underlying4 rfl rfl) (ltn rfl) ?_
    refine HO.v (V.move rfl) (ltn rfl) ?_
    refine HO.setF (t := 42) rfl (by rw [insD]; simp) ?_
    refine HO.gdo rfl rfl rfl rfl ?_
    refine HO.v (V.loadA ag26 rfl (by exact .mk (.there .here) (by repeat constructor))) (ltn rfl) ?_
    refine HO.gdo rfl rfl rfl rfl ?_
    refine HO.v (V.loadA ag26 rfl (by exact .mk .here (by repeat constructor))) (ltn rfl) ?_
    refine HO.gdo rfl rfl rfl rfl ?_
    refine HO.v (V.neqS [_, _, _, _, _] [_, _, _, _, _] if26 rfl rfl rfl rfl) (ltn rfl) ?_
    refine HO.v (V.pickF rfl rfl) (ltn rfl) ?_
    refine HO.nil ?_
    refine HQ.next ?_
    refine H.condF rfl (by simp) ?_
    refine H.skip ?_
    refine HQ.next ?_
    refine H.seq ?_
    refine H.region ?_
    refine HO.v (V.move rfl) (ltn rfl) ?_
    refine HO.v (V.move rfl) (ltn rfl) ?_
    refine HO.sliceFrom (N := encIn) zs (i :: ys) Tryd.underlying24 sz26 rfl rfl rfl hcap (by exact HasR.ro (.tail _ (.head _))) (ltn rfl) ?_
    intro A49 hA49
    generalize hc49 : n - zs.length = c49
    refine HO.v (V.len Tryd.underlying24 rfl) (ltn rfl) ?_
    refine HO.v (V.move rfl) (ltn rfl) ?_
    refine HO.nil ?_
    refine HQ.next ?_
    refine H.block ?_
    refine H.loop (σ := Nat) (fun s => (i :: ys).length - s) (fun s => [(0, .slice A (zs ++ i :: ys).length n), (1, .slice B outs.length m), (7, .pointer (some ⟨b7, 0, none⟩)), (23, .slice A (zs ++ i :: ys).length n), (24, .int .i64 (((zs ++ i :: ys).length : Nat) : Int)), (25, .int .i64 ((zs.length : Nat) : Int)), (49, .slice A49 (i :: ys).length c49), (50, .int .i64 (((i :: ys).length : Nat) : Int)), (51, .int .i64 ((s : Nat) : Int))]) (fun s => [cellsCh b7 26 [.int .i64 i.op, .int .i64 i.to, .int .i64 i.a, .int .i64 i.b, .int .i64 i.c]]) (fun s => s ≤ (i :: ys).length) (0) ?_ ?_ ?_
    · exact Nat.zero_le _
    · skip
      exact HQ.fits (.cons rfl (.cons rfl (.cons rfl (.cons rfl (.cons rfl (.cons rfl (.cons rfl (.cons rfl (.cons rfl (.nil)))))))))) (by exact Rems.cons (by exact (.there (.there .here))) (Rems.nil))
    intro j hj
    try dsimp only at hj ⊢
    have hlc2 : (i :: ys).length ≤ 16384 := by (simp at hlc ⊢; omega)
    refine H.seq ?_
    refine H.region ?_
    refine HO.v (V.lss rfl rfl) (ltn rfl) ?_
    refine HO.nil ?_
    refine HQ.next ?_
    refine H.seq ?_
    refine H.condB rfl (fun h52 => ?_) (fun h52 => ?_)
    · skip
      try simp only [decide_eq_true_eq, decide_eq_false_iff_not, Bool.not_eq_true', Bool.not_eq_false', insL] at h52
      obtain ⟨b, hb⟩ : ∃ b, (i :: ys)[j]? = some b := ⟨_, List.getElem?_eq_getElem (by omega)⟩
      have hmb : May b 128 := hv.may128 b (by have := List.mem_of_getElem? hb; simp at this ⊢; rcases this with h | h <;> simp [h])
      refine H.skip ?_
      refine HQ.next ?_
      refine H.seq ?_
      refine H.block ?_
      refine H.seq ?_
      refine H.region ?_
      refine HO.v (V.indexAddr (N := encIn) (ys := _) Tryd.underlying24 sz26 rfl rfl (by omega) (by omega) (by exact (hA49 _))) (ltn rfl) ?_
      refine HO.v (V.loadEA (N := encIn) ag26 rfl (by exact .mk ((hA49 _)) (hb) rfl)) (ltn rfl) ?_
      refine HO.alloc ze26 rfl (ltn rfl) ?_
      intro b12
      refine HO.store sz26 rfl rfl rfl rfl rfl (by exact .mk .here (by repeat constructor)) ?_
      refine HO.nil ?_
      refine HQ.next ?_
      refine H.seq ?_
      refine H.region ?_
      refine HO.v (V.loadA ag26 rfl (by exact .mk (.there .here) (by repeat constructor))) (ltn rfl) ?_
      refine HO.v (V.loadA ag26 rfl (by exact .mk .here (by repeat constructor))) (ltn rfl) ?_
      refine HO.call ca13 (.cons rfl (.cons rfl (.nil))) (Melt_w i b hmi hmb) (by exact Rems.nil) (by (refine Reads.ro (.head _) ?_); exact Reads.nil) (ltn rfl) ?_
      rintro v58 L58 ⟨rfl, rfl⟩
      dsimp only [List.nil_append, List.cons_append]
      refine HO.v (V.move rfl) (ltn rfl) ?_
      refine HO.v (V.extract rfl rfl) (ltn rfl) ?_
      refine HO.v (V.extract rfl rfl) (ltn rfl) ?_
      refine HO.alloc ze26 rfl (ltn rfl) ?_
      intro b13
      refine HO.store sz26 rfl rfl rfl rfl rfl (by exact .mk .here (by repeat constructor)) ?_
      refine HO.v (V.assign rfl) (ltn rfl) ?_
      refine HO.nil ?_
      refine HQ.next ?_
      refine H.seq ?_
      refine H.region ?_
      refine HO.v (V.build ze26 pl26 rfl (.nil) (.nil)) (ltn rfl) ?_
      refine HO.alloc ze26 rfl (ltn rfl) ?_
      intro b15
      refine HO.store sz26 rfl rfl rfl rfl rfl (by exact .mk .here (by repeat constructor)) ?_
      refine HO.v (V.assign rfl) (ltn rfl) ?_
      refine HO.nil ?_
      refine HQ.next ?_
      refine H.seq ?_
      refine H.seq ?_
      refine H.draws (.cons (i := 0) rfl (.cons (i := 1) rfl (.cons (i := 2) rfl (.cons (i := 3) rfl (.nil))))) (by kernel_rfl) ?_
      refine HA.take (i := 0) rfl rfl (ltn rfl) (by kernel_rfl) (by kernel_rfl) (by kernel_rfl) (gives_of want_none (V.loadA ag26 rfl (by exact .mk (.there (.there (.there .here))) (by repeat constructor)))) (.cons (by exact (.head _)) (.cons (by exact (.tail _ (.head _))) (.cons (by exact (.tail _ (.tail _ (.head _)))) (.cons (by exact (.tail _ (.tail _ (.tail _ (.head _))))) (Sub.nil))))) rfl ?_
      refine HA.take (i := 2) rfl rfl (ltn rfl) (by kernel_rfl) (by kernel_rfl) (by kernel_rfl) (gives_of want_none (V.loadA ag26 rfl (by exact .mk (.there (.there (.there .here))) (by repeat constructor)))) (.cons (by exact (.head _)) (.cons (by exact (.tail _ (.head _))) (.cons (by exact (.tail _ (.tail _ (.head _)))) (.cons (by exact (.tail _ (.tail _ (.tail _ (.head _))))) (Sub.nil))))) rfl ?_
      refine HA.one (i := 1) rfl (by kernel_rfl) ?_
      refine HO.call ca12 (.cons rfl (.nil)) (plain13_w i (cok_bd (op := i.op) hmi.c)) (by exact Rems.nil) (by exact Reads.nil) (ltn rfl) ?_
      rintro v63 L63 ⟨rfl, rfl⟩
      dsimp only [List.nil_append, List.cons_append]
      refine HO.nil ?_
      refine HQ.again (.cons (by exact (.head _)) (.cons (by exact (.tail _ (.head _))) (.cons (by exact (.tail _ (.tail _ (.head _)))) (.cons (by exact (.tail _ (.tail _ (.tail _ (.head _))))) (Sub.nil))))) rfl ?_
      refine HA.take (i := 3) rfl rfl (ltn rfl) (by kernel_rfl) (by kernel_rfl) (by kernel_rfl) (gives_of want_none (V.eqlS [_, _, _, _, _] [_, _, _, _, _] if26 rfl rfl rfl rfl)) (.cons (by exact (.head _)) (.cons (by exact (.tail _ (.head _))) (.cons (by exact (.tail _ (.tail _ (.head _)))) (.cons (by exact (.tail _ (.tail _ (.tail _ (.head _))))) (Sub.nil))))) rfl ?_
      refine HA.take (i := 4) rfl rfl (ltn rfl) (by kernel_rfl) (by kernel_rfl) (by kernel_rfl) (gives_of want_none (V.move rfl)) (.cons (by exact (.head _)) (.cons (by exact (.tail _ (.head _))) (.cons (by exact (.tail _ (.tail _ (.head _)))) (.cons (by exact (.tail _ (.tail _ (.tail _ (.head _))))) (Sub.nil))))) rfl ?_
      refine HA.part (t := 66) rfl (fun g66 => ?_) (fun g66 => ?_)
      · skip
        try simp only [decide_eq_true_eq, decide_eq_false_iff_not, Bool.not_eq_true', Bool.not_eq_false', insL] at g66
        refine HA.take (i := 5) rfl rfl (ltn rfl) (by kernel_rfl) (by kernel_rfl) (by kernel_rfl) (gives_of (want_some rfl rfl rfl rfl) (V.loadA ag26 rfl (by exact .mk (.there (.there .here)) (by repeat constructor)))) (.cons (by exact (.head _)) (.cons (by exact (.tail _ (.head _))) (.cons (by exact (.tail _ (.tail _ (.head _)))) (.cons (by exact (.tail _ (.tail _ (.tail _ (.head _))))) (Sub.nil))))) rfl ?_
        refine HA.take (i := 7) rfl rfl (ltn rfl) (by kernel_rfl) (by kernel_rfl) (by kernel_rfl) (gives_of (want_some rfl rfl rfl rfl) (V.loadA ag26 rfl (by exact .mk (.there (.there .here)) (by repeat constructor)))) (.cons (by exact (.head _)) (.cons (by exact (.tail _ (.head _))) (.cons (by exact (.tail _ (.tail _ (.head _)))) (.cons (by exact (.tail _ (.tail _ (.tail _ (.head _))))) (Sub.nil))))) rfl ?_
        refine HA.one (i := 6) rfl (by kernel_rfl) ?_
        refine HO.gdo rfl rfl rfl rfl ?_
        refine HO.call ca12 (.cons rfl (.nil)) (plain13_w b (cok_bd (op := b.op) hmb.c)) (by exact Rems.nil) (by exact Reads.nil) (ltn rfl) ?_
        rintro v68 L68 ⟨rfl, rfl⟩
        dsimp only [List.nil_append, List.cons_append]
        refine HO.nil ?_
        refine HQ.again (.cons (by exact (.head _)) (.cons (by exact (.tail _ (.head _))) (.cons (by exact (.tail _ (.tail _ (.head _)))) (.cons (by exact (.tail _ (.tail _ (.tail _ (.head _))))) (Sub.nil))))) rfl ?_
        refine HA.take (i := 8) rfl rfl (ltn rfl) (by kernel_rfl) (by kernel_rfl) (by kernel_rfl) (gives_of (want_some rfl rfl rfl rfl) (V.eqlS [_, _, _, _, _] [_, _, _, _, _] if26 rfl rfl rfl rfl)) (.cons (by exact (.head _)) (.cons (by exact (.tail _ (.head _))) (.cons (by exact (.tail _ (.tail _ (.head _)))) (.cons (by exact (.tail _ (.tail _ (.tail _ (.head _))))) (Sub.nil))))) rfl ?_
        refine HA.take (i := 9) rfl rfl (ltn rfl) (by kernel_rfl) (by kernel_rfl) (by kernel_rfl) (gives_of want_none (V.pickT rfl rfl)) (.cons (by exact (.head _)) (.cons (by exact (.tail _ (.head _))) (.cons (by exact (.tail _ (.tail _ (.head _)))) (.cons (by exact (.tail _ (.tail _ (.tail _ (.head _))))) (Sub.nil))))) rfl ?_
        refine HA.done (by kernel_rfl) ?_
        refine HQ.next ?_
        refine H.condB rfl (fun h71 => ?_) (fun h71 => ?_)
        · skip
          try simp only [decide_eq_true_eq, decide_eq_false_iff_not, Bool.not_eq_true', Bool.not_eq_false', insL] at h71
          refine H.region ?_
          refine HO.v (V.loadA ag26 rfl (by exact .mk (.there (.there (.there .here))) (by repeat constructor))) (ltn rfl) ?_
          refine HO.v (V.loadA ag26 rfl (by exact .mk (.there (.there .here)) (by repeat constructor))) (ltn rfl) ?_
          refine HO.call ca14 (.cons rfl (.cons rfl (.nil))) (melt13_w' i b hmi hmb) (by exact Rems.nil) (by exact Reads.nil) (ltn rfl) ?_
          rintro v75 L75 ⟨rfl, rfl⟩
          dsimp only [List.nil_append, List.cons_append]
          refine HO.v (V.move rfl) (ltn rfl) ?_
          refine HO.v (V.extract rfl rfl) (ltn rfl) ?_
          refine HO.v (V.extract rfl rfl) (ltn rfl) ?_
          refine HO.store sz26 rfl rfl rfl rfl rfl (by exact .mk .here (by repeat constructor)) ?_
          refine HO.v (V.assign rfl) (ltn rfl) ?_
          refine HO.nil ?_
          refine HQ.next ?_
          refine H.seq ?_
          refine H.region ?_
          refine HO.v (V.move rfl) (ltn rfl) ?_
          refine HO.v (V.move rfl) (ltn rfl) ?_
          refine HO.v (V.neqB Tryd.underlying4 rfl rfl) (ltn rfl) ?_
          refine HO.v (V.move rfl) (ltn rfl) ?_
          refine HO.setF (t := 81) rfl (by first | (simp [meltX, g66, h71]; done) | (simp [meltX, g66]; done) | (simp [meltX, g66, noIns]; done) | (simp [meltX, g66, h71, noIns]; done)) ?_
          refine HO.gdo rfl rfl rfl rfl ?_
          refine HO.v (V.loadA ag26 rfl (by exact .mk (.there .here) (by repeat constructor))) (ltn rfl) ?_
          refine HO.gdo rfl rfl rfl rfl ?_
          refine HO.v (V.loadA ag26 rfl (by exact .mk .here (by repeat constructor))) (ltn rfl) ?_
          refine HO.gdo rfl rfl rfl rfl ?_
          refine HO.v (V.neqS [_, _, _, _, _] [_, _, _, _, _] if26 rfl rfl rfl rfl) (ltn rfl) ?_
          refine HO.v (V.pickF rfl rfl) (ltn rfl) ?_
          refine HO.nil ?_
          refine HQ.next ?_
          refine H.condF rfl (by first | (simp [meltX, g66, h71]; done) | (simp [meltX, g66]; done) | (simp [meltX, g66, noIns]; done) | (simp [meltX, g66, h71, noIns]; done)) ?_
          refine H.skip ?_
          refine HQ.block_normal ?_
          refine HQ.next ?_
          refine H.region ?_
          refine HO.v (V.add rfl rfl (by first | omega | (simp at hlc2; omega))) (ltn rfl) ?_
          refine HO.v (V.move rfl) (ltn rfl) ?_
          refine HO.nil ?_
          refine HQ.round (j + 1) ?_ ?_ ?_
          · (try dsimp only); omega
          · omega
          · skip
            exact HQ.fits (.cons rfl (.cons rfl (.cons rfl (.cons rfl (.cons rfl (.cons rfl (.cons rfl (.cons rfl (.cons rfl (.nil)))))))))) (by exact Rems.cons (by exact (.there (.there (.there .here)))) (Rems.nil))
        · skip
          try simp only [decide_eq_true_eq, decide_eq_false_iff_not, Bool.not_eq_true', Bool.not_eq_false', insL] at h71
          refine H.skip ?_
          refine HQ.next ?_
          refine H.seq ?_
          refine H.region ?_
          refine HO.v (V.move rfl) (ltn rfl) ?_
          refine HO.v (V.move rfl) (ltn rfl) ?_
          refine HO.v (V.neqB Tryd.underlying4 rfl rfl) (ltn rfl) ?_
          refine HO.v (V.move rfl) (ltn rfl) ?_
          refine HO.setF (t := 81) rfl (by first | (simp [meltX, g66, h71]; done) | (simp [meltX, g66]; done) | (simp [meltX, g66, noIns]; done) | (simp [meltX, g66, h71, noIns]; done)) ?_
          refine HO.gdo rfl rfl rfl rfl ?_
          refine HO.v (V.loadA ag26 rfl (by exact .mk (.there .here) (by repeat constructor))) (ltn rfl) ?_
          refine HO.gdo rfl rfl rfl rfl ?_
          refine HO.v (V.loadA ag26 rfl (by exact .mk .here (by repeat constructor))) (ltn rfl) ?_
          refine HO.gdo rfl rfl rfl rfl ?_
          refine HO.v (V.neqS [_, _, _, _, _] [_, _, _, _, _] if26 rfl rfl rfl rfl) (ltn rfl) ?_
          refine HO.v (V.pickF rfl rfl) (ltn rfl) ?_
          refine HO.nil ?_
          refine HQ.next ?_
          refine H.condF rfl (by first | (simp [meltX, g66, h71]; done) | (simp [meltX, g66]; done) | (simp [meltX, g66, noIns]; done) | (simp [meltX, g66, h71, noIns]; done)) ?_
          refine H.skip ?_
          refine HQ.block_normal ?_
          refine HQ.next ?_
          refine H.region ?_
          refine HO.v (V.add rfl rfl (by first | omega | (simp at hlc2; omega))) (ltn rfl) ?_
          refine HO.v (V.move rfl) (ltn rfl) ?_
          refine HO.nil ?_
          refine HQ.round (j + 1) ?_ ?_ ?_
          · (try dsimp only); omega
          · omega
          · skip
            exact HQ.fits (.cons rfl (.cons rfl (.cons rfl (.cons rfl (.cons rfl (.cons rfl (.cons rfl (.cons rfl (.cons rfl (.nil)))))))))) (by exact Rems.cons (by exact (.there (.there (.there .here)))) (Rems.nil))
      · skip
        try simp only [decide_eq_true_eq, decide_eq_false_iff_not, Bool.not_eq_true', Bool.not_eq_false', insL] at g66
        refine HA.take (i := 5) rfl rfl (ltn rfl) (by kernel_rfl) (by kernel_rfl) (by kernel_rfl) (gives_not (want_not rfl rfl rfl rfl)) (.cons (by exact (.head _)) (.cons (by exact (.tail _ (.head _))) (.cons (by exact (.tail _ (.tail _ (.head _)))) (.cons (by exact (.tail _ (.tail _ (.tail _ (.head _))))) (Sub.nil))))) rfl ?_
        refine HA.take (i := 7) rfl rfl (ltn rfl) (by kernel_rfl) (by kernel_rfl) (by kernel_rfl) (gives_not (want_not rfl rfl rfl rfl)) (.cons (by exact (.head _)) (.cons (by exact (.tail _ (.head _))) (.cons (by exact (.tail _ (.tail _ (.head _)))) (.cons (by exact (.tail _ (.tail _ (.tail _ (.head _))))) (Sub.nil))))) rfl ?_
        refine HA.take (i := 6) rfl rfl (ltn rfl) (by kernel_rfl) (by kernel_rfl) (by kernel_rfl) (gives_not (want_not rfl rfl rfl rfl)) (.cons (by exact (.head _)) (.cons (by exact (.tail _ (.head _))) (.cons (by exact (.tail _ (.tail _ (.head _)))) (.cons (by exact (.tail _ (.tail _ (.tail _ (.head _))))) (Sub.nil))))) rfl ?_
        refine HA.take (i := 8) rfl rfl (ltn rfl) (by kernel_rfl) (by kernel_rfl) (by kernel_rfl) (gives_not (want_not rfl rfl rfl rfl)) (.cons (by exact (.head _)) (.cons (by exact (.tail _ (.head _))) (.cons (by exact (.tail _ (.tail _ (.head _)))) (.cons (by exact (.tail _ (.tail _ (.tail _ (.head _))))) (Sub.nil))))) rfl ?_
        refine HA.take (i := 9) rfl rfl (ltn rfl) (by kernel_rfl) (by kernel_rfl) (by kernel_rfl) (gives_of want_none (V.pickF rfl rfl)) (.cons (by exact (.head _)) (.cons (by exact (.tail _ (.head _))) (.cons (by exact (.tail _ (.tail _ (.head _)))) (.cons (by exact (.tail _ (.tail _ (.tail _ (.head _))))) (Sub.nil))))) rfl ?_
        refine HA.done (by kernel_rfl) ?_
        refine HQ.next ?_
        refine H.condF rfl rfl ?_
        refine H.skip ?_
        refine HQ.next ?_
        refine H.seq ?_
        refine H.region ?_
        refine HO.v (V.move rfl) (ltn rfl) ?_
        refine HO.v (V.move rfl) (ltn rfl) ?_
        refine HO.v (V.neqB Tryd.underlying4 rfl rfl) (ltn rfl) ?_
        refine HO.v (V.move rfl) (ltn rfl) ?_
        refine HO.setF (t := 81) rfl (by first | (simp [meltX, g66, h71]; done) | (simp [meltX, g66]; done) | (simp [meltX, g66, noIns]; done) | (simp [meltX, g66, h71, noIns]; done)) ?_
        refine HO.gdo rfl rfl rfl rfl ?_
        refine HO.v (V.loadA ag26 rfl (by exact .mk (.there .here) (by repeat constructor))) (ltn rfl) ?_
        refine HO.gdo rfl rfl rfl rfl ?_
        refine HO.v (V.loadA ag26 rfl (by exact .mk .here (by repeat constructor))) (ltn rfl) ?_
        refine HO.gdo rfl rfl rfl rfl ?_
        refine HO.v (V.neqS [_, _, _, _, _] [_, _, _, _, _] if26 rfl rfl rfl rfl) (ltn rfl) ?_
        refine HO.v (V.pickF rfl rfl) (ltn rfl) ?_
        refine HO.nil ?_
        refine HQ.next ?_
        refine H.condF rfl (by first | (simp [meltX, g66, h71]; done) | (simp [meltX, g66]; done) | (simp [meltX, g66, noIns]; done) | (simp [meltX, g66, h71, noIns]; done)) ?_
        refine H.skip ?_
        refine HQ.block_normal ?_
        refine HQ.next ?_
        refine H.region ?_
        refine HO.v (V.add rfl rfl (by first | omega | (simp at hlc2; omega))) (ltn rfl) ?_
        refine HO.v (V.move rfl) (ltn rfl) ?_
        refine HO.nil ?_
        refine HQ.round (j + 1) ?_ ?_ ?_
        · (try dsimp only); omega
        · omega
        · skip
          exact HQ.fits (.cons rfl (.cons rfl (.cons rfl (.cons rfl (.cons rfl (.cons rfl (.cons rfl (.cons rfl (.cons rfl (.nil)))))))))) (by exact Rems.cons (by exact (.there (.there (.there .here)))) (Rems.nil))
    · skip
      try simp only [decide_eq_true_eq, decide_eq_false_iff_not, Bool.not_eq_true', Bool.not_eq_false', insL] at h52
      refine H.exit ?_
      refine HQ.then_exit ?_
      refine HQ.then_exit ?_
      refine HQ.exit_hit ?_
      refine HQ.block_normal ?_
      refine HQ.next ?_
      refine H.region ?_
      refine HO.v (V.add rfl rfl (by first | omega | (simp at hlc; omega))) (ltn rfl) ?_
      refine HO.v (V.move rfl) (ltn rfl) ?_
      refine HO.nil ?_
      refine HQ.round (zs.length + 1) ?_ ?_ ?_
      · simp
      · (simp; omega)
      · skip
        exact HQ.fits (.cons rfl (.cons rfl (.cons rfl (.cons rfl (.cons rfl (.nil)))))) (by exact Rems.nil)
  · skip
    try simp only [decide_eq_true_eq, decide_eq_false_iff_not, Bool.not_eq_true', Bool.not_eq_false', insL] at h26
    refine H.exit ?_
    refine HQ.then_exit ?_
    refine HQ.then_exit ?_
    refine HQ.exit_hit ?_
    refine HQ.next ?_
    refine H.seq ?_
    refine H.region ?_
    refine HO.v (V.move rfl) (ltn rfl) ?_
    refine HO.appendNil encIn (code) Tryd.underlying24 ze26 rfl rfl rfl (by exact Has.ro (.tail _ (.head _))) (by first | omega | (simp; omega)) (by decide) (ltn rfl) ?_
    intro A89 c89
    refine HO.v (V.move rfl) (ltn rfl) ?_
    refine HO.appendNil (encI .i64) (outs) Tryd.underlying30 ze3 rfl rfl rfl (by exact Has.ro (.tail _ (.tail _ (.head _)))) (by first | omega | (simp; omega)) (by decide) (ltn rfl) ?_
    intro A91 c91
    refine HO.v (V.build ze38 pl38 rfl (.cons rfl (.cons rfl (.cons rfl (.cons rfl (.nil))))) (.cons rfl rfl rfl (by repeat constructor) (.cons rfl rfl rfl (by repeat constructor) (.cons rfl rfl rfl (by repeat constructor) (.cons rfl rfl rfl (by repeat constructor) (.nil)))))) (ltn rfl) ?_
    refine HO.alloc ze38 rfl (ltn rfl) ?_
    intro b17
    refine HO.store sz38 rfl rfl rfl rfl rfl (by exact .mk .here (by repeat constructor)) ?_
    refine HO.nil ?_
    refine HQ.keep (.cons (t := 0) rfl (.cons (t := 1) rfl (.cons (t := 17) rfl (.nil)))) ?_
    refine HQ.next ?_
    refine H.seq ?_
    refine H.region ?_
    refine HO.v (V.loadA ag38 rfl (by exact .mk .here (by repeat constructor))) (ltn rfl) ?_
    refine HO.call ca15 (.cons rfl (.nil)) (foldPass_w ⟨2, 3, code, outs⟩ _ _ _ _ hv) (by exact Rems.nil) (by (refine Reads.ro (.head _) ?_); (refine Reads.row (.tail _ (.tail _ (.head _))) ?_); (refine Reads.row (.tail _ (.head _)) ?_); exact Reads.nil) (ltn rfl) ?_
    rintro v95 L95 ⟨C95, k95, D95, j95, rfl, rfl⟩
    dsimp only [List.nil_append, List.cons_append]
    refine HO.v (V.move rfl) (ltn rfl) ?_
    refine HO.v (V.extract rfl rfl) (ltn rfl) ?_
    refine HO.v (V.extract rfl rfl) (ltn rfl) ?_
    refine HO.alloc ze38 rfl (ltn rfl) ?_
    intro b18
    refine HO.store sz38 rfl rfl rfl rfl rfl (by exact .mk .here (by repeat constructor)) ?_
    refine HO.v (V.assign rfl) (ltn rfl) ?_
    refine HO.nil ?_
    refine HQ.keep (.cons (t := 0) rfl (.cons (t := 1) rfl (.cons (t := 17) rfl (.cons (t := 18) rfl (.cons (t := 19) rfl (.nil)))))) ?_
    refine HQ.next ?_
    refine H.seq ?_
    refine H.region ?_
    refine HO.v (V.move rfl) (ltn rfl) ?_
    refine HO.call ca16 (.cons rfl (.nil)) (pass13_w code A n hv.may128 hlc) (by exact Rems.nil) (by (refine Reads.ro (.tail _ (.head _)) ?_); exact Reads.nil) (ltn rfl) ?_
    rintro v99 L99 ⟨C99, k99, rfl, rfl⟩
    dsimp only [List.nil_append, List.cons_append]
    refine HO.v (V.assign rfl) (ltn rfl) ?_
    refine HO.nil ?_
    refine HQ.keep (.cons (t := 0) rfl (.cons (t := 1) rfl (.cons (t := 17) rfl (.cons (t := 18) rfl (.cons (t := 19) rfl (.cons (t := 20) rfl (.nil))))))) ?_
    refine HQ.next ?_
    refine H.seq ?_
    refine H.seq ?_
    refine H.region ?_
    refine HO.v (V.move rfl) (ltn rfl) ?_
    refine HO.v (V.neqI rfl rfl) (ltn rfl) ?_
    refine HO.v (V.move rfl) (ltn rfl) ?_
    refine HO.setF (t := 102) rfl (by rfl) ?_
    refine HO.gdo rfl rfl rfl rfl ?_
    refine HO.v (V.fieldAddr (fs := #[]) fa38_0 rfl) (ltn rfl) ?_
    refine HO.gdo rfl rfl rfl rfl ?_
    refine HO.v (V.load sc3 rfl (by exact .mk (.there .here) rfl)) (ltn rfl) ?_
    refine HO.gdo rfl rfl rfl rfl ?_
    refine HO.v (V.neqI rfl rfl) (ltn rfl) ?_
    refine HO.v (V.pickF rfl rfl) (ltn rfl) ?_
    refine HO.v (V.move rfl) (ltn rfl) ?_
    refine HO.setF (t := 107) rfl (by rfl) ?_
    refine HO.gdo rfl rfl rfl rfl ?_
    refine HO.v (V.fieldAddr (fs := #[]) fa38_1 rfl) (ltn rfl) ?_
    refine HO.gdo rfl rfl rfl rfl ?_
    refine HO.v (V.load sc3 rfl (by exact .mk (.there .here) rfl)) (ltn rfl) ?_
    refine HO.gdo rfl rfl rfl rfl ?_
    refine HO.v (V.neqI rfl rfl) (ltn rfl) ?_
    refine HO.v (V.pickF rfl rfl) (ltn rfl) ?_
    refine HO.v (V.move rfl) (ltn rfl) ?_
    refine HO.setF (t := 112) rfl (by rfl) ?_
    refine HO.gdo rfl rfl rfl rfl ?_
    refine HO.v (V.fieldAddr (fs := #[]) fa38_2 rfl) (ltn rfl) ?_
    refine HO.gdo rfl rfl rfl rfl ?_
    refine HO.v (V.load sc24 rfl (by exact .mk (.there .here) rfl)) (ltn rfl) ?_
    refine HO.gdo rfl rfl rfl rfl ?_
    refine HO.v (V.move rfl) (ltn rfl) ?_
    refine HO.gdo rfl rfl rfl rfl ?_
    refine HO.call ca17 (.cons rfl (.cons rfl (.nil))) (same13_w (passF code) (passF code) _ _ _ _ (by omega)) (by exact Rems.nil) (by (refine Reads.row (.tail _ (.tail _ (.head _))) ?_); (refine Reads.row (.head _) ?_); exact Reads.nil) (ltn rfl) ?_
    rintro v116 L116 ⟨rfl, rfl⟩
    dsimp only [List.nil_append, List.cons_append]
    refine HO.gdo rfl rfl rfl rfl ?_
    refine HO.v (V.not rfl) (ltn rfl) ?_
    refine HO.v (V.pickF rfl rfl) (ltn rfl) ?_
    refine HO.v (V.move rfl) (ltn rfl) ?_
    refine HO.setF (t := 119) rfl (by simp) ?_
    refine HO.gdo rfl rfl rfl rfl ?_
    refine HO.v (V.fieldAddr (fs := #[]) fa38_3 rfl) (ltn rfl) ?_
    refine HO.gdo rfl rfl rfl rfl ?_
    refine HO.v (V.load sc30 rfl (by exact .mk (.there .here) rfl)) (ltn rfl) ?_
    refine HO.gdo rfl rfl rfl rfl ?_
    refine HO.v (V.len Tryd.underlying30 rfl) (ltn rfl) ?_
    refine HO.gdo rfl rfl rfl rfl ?_
    refine HO.v (V.move rfl) (ltn rfl) ?_
    refine HO.gdo rfl rfl rfl rfl ?_
    refine HO.v (V.len Tryd.underlying30 rfl) (ltn rfl) ?_
    refine HO.gdo rfl rfl rfl rfl ?_
    refine HO.v (V.neqI rfl rfl) (ltn rfl) ?_
    refine HO.v (V.pickF rfl rfl) (ltn rfl) ?_
    refine HO.v (V.move rfl) (ltn rfl) ?_
    refine HO.setF (t := 127) rfl (by simp) ?_
    refine HO.gdo rfl rfl rfl rfl ?_
    refine HO.v (V.fieldAddr (fs := #[]) fa38_2 rfl) (ltn rfl) ?_
    refine HO.gdo rfl rfl rfl rfl ?_
    refine HO.v (V.load sc24 rfl (by exact .mk (.there (.there (.there (.there .here)))) rfl)) (ltn rfl) ?_
    refine HO.gdo rfl rfl rfl rfl ?_
    refine HO.v (V.move rfl) (ltn rfl) ?_
    refine HO.gdo rfl rfl rfl rfl ?_
    refine HO.call ca17 (.cons rfl (.cons rfl (.nil))) (same13_w code code _ _ _ _ (by omega)) (by exact Rems.nil) (by (refine Reads.row (.tail _ (.tail _ (.tail _ (.tail _ (.tail _ (.tail _ (.head _))))))) ?_); (refine Reads.ro (.tail _ (.head _)) ?_); exact Reads.nil) (ltn rfl) ?_
    rintro v131 L131 ⟨rfl, rfl⟩
    dsimp only [List.nil_append, List.cons_append]
    refine HO.gdo rfl rfl rfl rfl ?_
    refine HO.v (V.not rfl) (ltn rfl) ?_
    refine HO.v (V.pickF rfl rfl) (ltn rfl) ?_
    refine HO.nil ?_
    refine HQ.keep (.cons (t := 1) rfl (.cons (t := 18) rfl (.cons (t := 19) rfl (.cons (t := 20) rfl (.cons (t := 133) rfl (.nil)))))) ?_
    refine HQ.next ?_
    refine H.condF rfl (by simp) ?_
    refine H.skip ?_
    refine HQ.next ?_
    refine H.seq ?_
    refine H.seq ?_
    refine H.region ?_
    refine HO.v (V.move rfl) (ltn rfl) ?_
    refine HO.v (V.len Tryd.underlying30 rfl) (ltn rfl) ?_
    refine HO.v (V.move rfl) (ltn rfl) ?_
    refine HO.nil ?_
    refine HQ.keep (.cons (t := 1) rfl (.cons (t := 18) rfl (.cons (t := 19) rfl (.cons (t := 20) rfl (.cons (t := 135) rfl (.cons (t := 136) rfl (.nil))))))) ?_
    refine HQ.next ?_
    refine H.block ?_
    refine H.loop (σ := Nat) (fun s => outs.length - s) (fun s => [(1, .slice B outs.length m), (18, .pointer (some ⟨b18, 0, none⟩)), (20, .slice C99 (passF code).length k99), (135, .int .i64 ((outs.length : Nat) : Int)), (136, .int .i64 ((s : Nat) : Int))]) (fun s => [rowE encIn 26 C99 k99 (passF code), cellsCh b18 38 [.int .i64 2, .int .i64 3, .slice C95 (passF code).length k95, .slice D95 outs.length j95], rowE encIn 26 C95 k95 (passF code), rowE (encI .i64) 3 D95 j95 outs]) (fun s => s ≤ outs.length) (0) ?_ ?_ ?_
    · exact Nat.zero_le _
    · skip
      exact HQ.fits (.cons rfl (.cons rfl (.cons rfl (.cons rfl (.cons rfl (.nil)))))) (by exact Rems.cons (by exact .here) (Rems.cons (by exact .here) (Rems.cons (by exact .here) (Rems.cons (by exact .here) (Rems.nil)))))
    intro q hq
    try dsimp only at hq ⊢
    refine H.seq ?_
    refine H.region ?_
    refine HO.v (V.lss rfl rfl) (ltn rfl) ?_
    refine HO.nil ?_
    refine HQ.next ?_
    refine H.seq ?_
    refine H.condB rfl (fun h137 => ?_) (fun h137 => ?_)
    · skip
      try simp only [decide_eq_true_eq, decide_eq_false_iff_not, Bool.not_eq_true', Bool.not_eq_false', insL] at h137
      obtain ⟨o, ho⟩ : ∃ o, outs[q]? = some o := ⟨_, List.getElem?_eq_getElem (by omega)⟩
      refine H.skip ?_
      refine HQ.next ?_
      refine H.seq ?_
      refine H.block ?_
      refine H.seq ?_
      refine H.region ?_
      refine HO.v (V.move rfl) (ltn rfl) ?_
      refine HO.v (V.assign rfl) (ltn rfl) ?_
      refine HO.nil ?_
      refine HQ.next ?_
      refine H.seq ?_
      refine H.draws (.cons (i := 0) rfl (.cons (i := 1) rfl (.cons (i := 2) rfl (.cons (i := 3) rfl (.nil))))) (by kernel_rfl) ?_
      refine HA.take (i := 0) rfl rfl (ltn rfl) (by kernel_rfl) (by kernel_rfl) (by kernel_rfl) (gives_of want_none (V.fieldAddr (fs := #[]) fa38_3 rfl)) (.cons (by exact (.head _)) (.cons (by exact (.tail _ (.head _))) (.cons (by exact (.tail _ (.tail _ (.head _)))) (.cons (by exact (.tail _ (.tail _ (.tail _ (.head _))))) (Sub.nil))))) rfl ?_
      refine HA.take (i := 1) rfl rfl (ltn rfl) (by kernel_rfl) (by kernel_rfl) (by kernel_rfl) (gives_of want_none (V.load sc30 rfl (by exact .mk (.there .here) rfl))) (.cons (by exact (.head _)) (.cons (by exact (.tail _ (.head _))) (.cons (by exact (.tail _ (.tail _ (.head _)))) (.cons (by exact (.tail _ (.tail _ (.tail _ (.head _))))) (Sub.nil))))) rfl ?_
      refine HA.take (i := 2) rfl rfl (ltn rfl) (by kernel_rfl) (by kernel_rfl) (by kernel_rfl) (gives_of want_none (V.move rfl)) (.cons (by exact (.head _)) (.cons (by exact (.tail _ (.head _))) (.cons (by exact (.tail _ (.tail _ (.head _)))) (.cons (by exact (.tail _ (.tail _ (.tail _ (.head _))))) (Sub.nil))))) rfl ?_
      refine HA.take (i := 3) rfl rfl (ltn rfl) (by kernel_rfl) (by kernel_rfl) (by kernel_rfl) (gives_of want_none (V.indexAddr (N := (encI .i64)) (ys := _) Tryd.underlying30 sz3 rfl rfl (by omega) (by omega) (by exact Has.own (.there (.there (.there .here)))))) (.cons (by exact (.head _)) (.cons (by exact (.tail _ (.head _))) (.cons (by exact (.tail _ (.tail _ (.head _)))) (.cons (by exact (.tail _ (.tail _ (.tail _ (.head _))))) (Sub.nil))))) rfl ?_
      refine HA.take (i := 4) rfl rfl (ltn rfl) (by kernel_rfl) (by kernel_rfl) (by kernel_rfl) (gives_of want_none (V.loadE (N := (encI .i64)) sc3 rfl (by exact .mk (Has.own (.there (.there (.there .here)))) (ho) rfl))) (.cons (by exact (.head _)) (.cons (by exact (.tail _ (.head _))) (.cons (by exact (.tail _ (.tail _ (.head _)))) (.cons (by exact (.tail _ (.tail _ (.tail _ (.head _))))) (Sub.nil))))) rfl ?_
      refine HA.take (i := 5) rfl rfl (ltn rfl) (by kernel_rfl) (by kernel_rfl) (by kernel_rfl) (gives_of want_none (V.move rfl)) (.cons (by exact (.head _)) (.cons (by exact (.tail _ (.head _))) (.cons (by exact (.tail _ (.tail _ (.head _)))) (.cons (by exact (.tail _ (.tail _ (.tail _ (.head _))))) (Sub.nil))))) rfl ?_
      refine HA.take (i := 6) rfl rfl (ltn rfl) (by kernel_rfl) (by kernel_rfl) (by kernel_rfl) (gives_of want_none (V.move rfl)) (.cons (by exact (.head _)) (.cons (by exact (.tail _ (.head _))) (.cons (by exact (.tail _ (.tail _ (.head _)))) (.cons (by exact (.tail _ (.tail _ (.tail _ (.head _))))) (Sub.nil))))) rfl ?_
      refine HA.take (i := 7) rfl rfl (ltn rfl) (by kernel_rfl) (by kernel_rfl) (by kernel_rfl) (gives_of want_none (V.indexAddr (N := (encI .i64)) (ys := _) Tryd.underlying30 sz3 rfl rfl (by omega) (by omega) (by exact Has.ro (.tail _ (.tail _ (.head _)))))) (.cons (by exact (.head _)) (.cons (by exact (.tail _ (.head _))) (.cons (by exact (.tail _ (.tail _ (.head _)))) (.cons (by exact (.tail _ (.tail _ (.tail _ (.head _))))) (Sub.nil))))) rfl ?_
      refine HA.take (i := 8) rfl rfl (ltn rfl) (by kernel_rfl) (by kernel_rfl) (by kernel_rfl) (gives_of want_none (V.loadE (N := (encI .i64)) sc3 rfl (by exact .mk (Has.ro (.tail _ (.tail _ (.head _)))) (ho) rfl))) (.cons (by exact (.head _)) (.cons (by exact (.tail _ (.head _))) (.cons (by exact (.tail _ (.tail _ (.head _)))) (.cons (by exact (.tail _ (.tail _ (.tail _ (.head _))))) (Sub.nil))))) rfl ?_
      refine HA.take (i := 9) rfl rfl (ltn rfl) (by kernel_rfl) (by kernel_rfl) (by kernel_rfl) (gives_of want_none (V.neqI rfl rfl)) (.cons (by exact (.head _)) (.cons (by exact (.tail _ (.head _))) (.cons (by exact (.tail _ (.tail _ (.head _)))) (.cons (by exact (.tail _ (.tail _ (.tail _ (.head _))))) (Sub.nil))))) rfl ?_
      refine HA.done (by kernel_rfl) ?_
      refine HQ.next ?_
      refine H.condF rfl (by simp) ?_
      refine H.skip ?_
      refine HQ.block_normal ?_
      refine HQ.next ?_
      refine H.region ?_
      refine HO.v (V.add rfl rfl (by omega)) (ltn rfl) ?_
      refine HO.v (V.move rfl) (ltn rfl) ?_
      refine HO.nil ?_
      refine HQ.round (q + 1) ?_ ?_ ?_
      · (try dsimp only); omega
      · omega
      · skip
        exact HQ.fits (.cons rfl (.cons rfl (.cons rfl (.cons rfl (.cons rfl (.nil)))))) (by exact Rems.cons (by exact .here) (Rems.cons (by exact .here) (Rems.cons (by exact .here) (Rems.cons (by exact .here) (Rems.nil)))))
    · skip
      try simp only [decide_eq_true_eq, decide_eq_false_iff_not, Bool.not_eq_true', Bool.not_eq_false', insL] at h137
      refine H.exit ?_
      refine HQ.then_exit ?_
      refine HQ.then_exit ?_
      refine HQ.exit_hit ?_
      refine HQ.next ?_
      refine H.seq ?_
      refine H.region ?_
      refine HO.v (V.loadA ag38 rfl (by exact .mk (.there .here) (by repeat constructor))) (ltn rfl) ?_
      refine HO.call ca15 (.cons rfl (.nil)) (foldPass_w ⟨2, 3, passF code, outs⟩ _ _ _ _ hv.pass) (by exact Rems.nil) (by (refine Reads.ro (.head _) ?_); (refine Reads.row (.tail _ (.tail _ (.head _))) ?_); (refine Reads.row (.tail _ (.tail _ (.tail _ (.head _)))) ?_); exact Reads.nil) (ltn rfl) ?_
      rintro v152 L152 ⟨C152, k152, D152, j152, rfl, rfl⟩
      dsimp only [List.nil_append, List.cons_append]
      refine HO.v (V.move rfl) (ltn rfl) ?_
      refine HO.v (V.extract rfl rfl) (ltn rfl) ?_
      refine HO.v (V.extract rfl rfl) (ltn rfl) ?_
      refine HO.alloc ze38 rfl (ltn rfl) ?_
      intro b22
      refine HO.store sz38 rfl rfl rfl rfl rfl (by exact .mk .here (by repeat constructor)) ?_
      refine HO.v (V.assign rfl) (ltn rfl) ?_
      refine HO.nil ?_
      refine HQ.keep (.cons (t := 19) rfl (.cons (t := 20) rfl (.cons (t := 22) rfl (.nil)))) ?_
      refine HQ.next ?_
      refine H.seq ?_
      refine H.region ?_
      refine HO.v (V.move rfl) (ltn rfl) ?_
      refine HO.v (V.len Tryd.underlying24 rfl) (ltn rfl) ?_
      refine HO.v (V.move rfl) (ltn rfl) ?_
      refine HO.v (V.eqlI rfl rfl) (ltn rfl) ?_
      refine HO.v (V.move rfl) (ltn rfl) ?_
      refine HO.setT (t := 159) rfl (by rfl) ?_
      refine HO.gdo rfl rfl rfl rfl ?_
      refine HO.v (V.fieldAddr (fs := #[]) fa38_2 rfl) (ltn rfl) ?_
      refine HO.gdo rfl rfl rfl rfl ?_
      refine HO.v (V.load sc24 rfl (by exact .mk .here rfl)) (ltn rfl) ?_
      refine HO.gdo rfl rfl rfl rfl ?_
      refine HO.v (V.move rfl) (ltn rfl) ?_
      refine HO.gdo rfl rfl rfl rfl ?_
      refine HO.call ca17 (.cons rfl (.cons rfl (.nil))) (same13_w (passF (passF code)) (passF code) _ _ _ _ (by have := passF_length (passF code); omega)) (by exact Rems.nil) (by (refine Reads.row (.tail _ (.head _)) ?_); (refine Reads.row (.tail _ (.tail _ (.tail _ (.head _)))) ?_); exact Reads.nil) (ltn rfl) ?_
      rintro v163 L163 ⟨rfl, rfl⟩
      dsimp only [List.nil_append, List.cons_append]
      refine HO.v (V.pickT rfl rfl) (ltn rfl) ?_
      refine HO.v (V.assign rfl) (ltn rfl) ?_
      refine HO.v (V.assign rfl) (ltn rfl) ?_
      refine HO.nil ?_
      refine HQ.keep (.cons (t := 4) rfl (.cons (t := 5) rfl (.nil))) ?_
      refine HQ.next ?_
      refine H.ret ?_
      refine HQ.end_ rfl rfl rfl rfl (.inl rfl) _ (fun a w s => res2 Tryd.results6 s rfl rfl) ?_
      refine ⟨_, _, .nil, ?_, rfl⟩
      rw [passF_passF, decide_eq_true rfl]
set_option maxHeartbeats 2000000 in
theorem knows13_w  :
    Tri Tryd.prog 7 #[] [tabCh] [] (fun v L' => v = .bool true ∧ L' = []) := by
  refine Tri.of' 85 [] [] Tryd.func7 Tryd.ntmps7 rfl rfl rfl ?_
  intro w0
  refine H.seq ?_
  refine H.region ?_
  refine HO.v (V.assign rfl) (ltn rfl) ?_
  refine HO.nil ?_
  refine HQ.next ?_
  refine H.seq ?_
  refine H.region ?_
  refine HO.v (V.build ze26 pl26 rfl (.cons rfl (.cons rfl (.cons rfl (.cons rfl (.nil))))) (.cons rfl rfl rfl (by repeat constructor) (.cons rfl rfl rfl (by repeat constructor) (.cons rfl rfl rfl (by repeat constructor) (.cons rfl rfl rfl (by repeat constructor) (.nil)))))) (ltn rfl) ?_
  refine HO.v (V.build ze26 pl26 rfl (.cons rfl (.cons rfl (.cons rfl (.cons rfl (.nil))))) (.cons rfl rfl rfl (by repeat constructor) (.cons rfl rfl rfl (by repeat constructor) (.cons rfl rfl rfl (by repeat constructor) (.cons rfl rfl rfl (by repeat constructor) (.nil)))))) (ltn rfl) ?_
  refine HO.v (V.build ze26 pl26 rfl (.cons rfl (.cons rfl (.cons rfl (.cons rfl (.nil))))) (.cons rfl rfl rfl (by repeat constructor) (.cons rfl rfl rfl (by repeat constructor) (.cons rfl rfl rfl (by repeat constructor) (.cons rfl rfl rfl (by repeat constructor) (.nil)))))) (ltn rfl) ?_
  refine HO.v (V.build ze26 pl26 rfl (.cons rfl (.cons rfl (.cons rfl (.nil)))) (.cons rfl rfl rfl (by repeat constructor) (.cons rfl rfl rfl (by repeat constructor) (.cons rfl rfl rfl (by repeat constructor) (.nil))))) (ltn rfl) ?_
  refine HO.buildRow encIn (kcode) Tryd.underlying24 ze26 (.cons rfl (.cons rfl (.cons rfl (.cons rfl (.nil))))) (.cons rfl (.cons rfl (.cons rfl (.cons rfl (.nil))))) (Nat.le_of_ble_eq_true rfl) (Nat.le_of_ble_eq_true rfl) (ltn rfl) ?_
  intro b16
  refine HO.buildRow (encI .i64) ([1]) Tryd.underlying30 ze3 (.cons rfl (.nil)) (.cons rfl (.nil)) (Nat.le_of_ble_eq_true rfl) (Nat.le_of_ble_eq_true rfl) (ltn rfl) ?_
  intro b17
  refine HO.v (V.build ze38 pl38 rfl (.cons rfl (.cons rfl (.cons rfl (.cons rfl (.nil))))) (.cons rfl rfl rfl (by repeat constructor) (.cons rfl rfl rfl (by repeat constructor) (.cons rfl rfl rfl (by repeat constructor) (.cons rfl rfl rfl (by repeat constructor) (.nil)))))) (ltn rfl) ?_
  refine HO.alloc ze38 rfl (ltn rfl) ?_
  intro b1
  refine HO.store sz38 rfl rfl rfl rfl rfl (by exact .mk .here (by repeat constructor)) ?_
  refine HO.nil ?_
  refine HQ.keep (.cons (t := 0) rfl (.cons (t := 1) rfl (.nil))) ?_
  refine HQ.next ?_
  refine H.seq ?_
  refine H.region ?_
  refine HO.v (V.loadA ag38 rfl (by exact .mk .here (by repeat constructor))) (ltn rfl) ?_
  refine HO.call ca15 (.cons rfl (.nil)) (foldPass_w ⟨1, 2, kcode, [1]⟩ _ _ _ _ kright) (by exact Rems.nil) (by (refine Reads.ro (.head _) ?_); (refine Reads.row (.tail _ (.tail _ (.head _))) ?_); (refine Reads.row (.tail _ (.head _)) ?_); exact Reads.nil) (ltn rfl) ?_
  rintro v21 L21 ⟨C21, k21, D21, j21, rfl, rfl⟩
  dsimp only [List.nil_append, List.cons_append]
  refine HO.v (V.move rfl) (ltn rfl) ?_
  refine HO.v (V.extract rfl rfl) (ltn rfl) ?_
  refine HO.v (V.extract rfl rfl) (ltn rfl) ?_
  refine HO.alloc ze38 rfl (ltn rfl) ?_
  intro b2
  refine HO.store sz38 rfl rfl rfl rfl rfl (by exact .mk .here (by repeat constructor)) ?_
  refine HO.v (V.assign rfl) (ltn rfl) ?_
  refine HO.nil ?_
  refine HQ.keep (.cons (t := 0) rfl (.cons (t := 1) rfl (.cons (t := 2) rfl (.cons (t := 3) rfl (.nil))))) ?_
  refine HQ.next ?_
  refine H.seq ?_
  refine H.region ?_
  refine HO.v (V.build ze26 pl26 rfl (.cons rfl (.cons rfl (.cons rfl (.nil)))) (.cons rfl rfl rfl (by repeat constructor) (.cons rfl rfl rfl (by repeat constructor) (.cons rfl rfl rfl (by repeat constructor) (.nil))))) (ltn rfl) ?_
  refine HO.v (V.build ze26 pl26 rfl (.cons rfl (.cons rfl (.cons rfl (.cons rfl (.nil))))) (.cons rfl rfl rfl (by repeat constructor) (.cons rfl rfl rfl (by repeat constructor) (.cons rfl rfl rfl (by repeat constructor) (.cons rfl rfl rfl (by repeat constructor) (.nil)))))) (ltn rfl) ?_
  refine HO.call ca13 (.cons rfl (.cons rfl (.nil))) (Melt_w ⟨5, 1, 0, 0, 6⟩ ⟨6, 1, 1, 0, 3⟩ (kmay _ rfl) (kmay _ rfl)) (by exact Rems.nil) (by (refine Reads.ro (.head _) ?_); exact Reads.nil) (ltn rfl) ?_
  rintro v27 L27 ⟨rfl, rfl⟩
  rw [kmelt1]
  dsimp only [List.nil_append, List.cons_append]
  refine HO.v (V.move rfl) (ltn rfl) ?_
  refine HO.v (V.extract rfl rfl) (ltn rfl) ?_
  refine HO.v (V.extract rfl rfl) (ltn rfl) ?_
  refine HO.alloc ze26 rfl (ltn rfl) ?_
  intro b4
  refine HO.store sz26 rfl rfl rfl rfl rfl (by exact .mk .here (by repeat constructor)) ?_
  refine HO.v (V.assign rfl) (ltn rfl) ?_
  refine HO.nil ?_
  refine HQ.keep (.cons (t := 0) rfl (.cons (t := 1) rfl (.cons (t := 2) rfl (.cons (t := 3) rfl (.cons (t := 4) rfl (.cons (t := 5) rfl (.nil))))))) ?_
  refine HQ.next ?_
  refine H.seq ?_
  refine H.region ?_
  refine HO.v (V.build ze26 pl26 rfl (.cons rfl (.cons rfl (.cons rfl (.nil)))) (.cons rfl rfl rfl (by repeat constructor) (.cons rfl rfl rfl (by repeat constructor) (.cons rfl rfl rfl (by repeat constructor) (.nil))))) (ltn rfl) ?_
  refine HO.v (V.build ze26 pl26 rfl (.cons rfl (.cons rfl (.cons rfl (.cons rfl (.nil))))) (.cons rfl rfl rfl (by repeat constructor) (.cons rfl rfl rfl (by repeat constructor) (.cons rfl rfl rfl (by repeat constructor) (.cons rfl rfl rfl (by repeat constructor) (.nil)))))) (ltn rfl) ?_
  refine HO.call ca13 (.cons rfl (.cons rfl (.nil))) (Melt_w ⟨5, 1, 0, 0, 6⟩ ⟨6, 1, 1, 0, 4⟩ (kmay _ rfl) (kmay _ rfl)) (by exact Rems.nil) (by (refine Reads.ro (.head _) ?_); exact Reads.nil) (ltn rfl) ?_
  rintro v33 L33 ⟨rfl, rfl⟩
  rw [kmelt2]
  dsimp only [List.nil_append, List.cons_append]
  refine HO.v (V.move rfl) (ltn rfl) ?_
  refine HO.v (V.extract rfl rfl) (ltn rfl) ?_
  refine HO.v (V.extract rfl rfl) (ltn rfl) ?_
  refine HO.alloc ze26 rfl (ltn rfl) ?_
  intro b6
  refine HO.store sz26 rfl rfl rfl rfl rfl (by exact .mk .here (by repeat constructor)) ?_
  refine HO.v (V.assign rfl) (ltn rfl) ?_
  refine HO.nil ?_
  refine HQ.keep (.cons (t := 0) rfl (.cons (t := 1) rfl (.cons (t := 2) rfl (.cons (t := 3) rfl (.cons (t := 4) rfl (.cons (t := 5) rfl (.cons (t := 7) rfl (.nil)))))))) ?_
  refine HQ.next ?_
  refine H.seq ?_
  refine H.region ?_
  refine HO.v (V.build ze26 pl26 rfl (.cons rfl (.cons rfl (.cons rfl (.nil)))) (.cons rfl rfl rfl (by repeat constructor) (.cons rfl rfl rfl (by repeat constructor) (.cons rfl rfl rfl (by repeat constructor) (.nil))))) (ltn rfl) ?_
  refine HO.v (V.build ze26 pl26 rfl (.cons rfl (.cons rfl (.cons rfl (.cons rfl (.nil))))) (.cons rfl rfl rfl (by repeat constructor) (.cons rfl rfl rfl (by repeat constructor) (.cons rfl rfl rfl (by repeat constructor) (.cons rfl rfl rfl (by repeat constructor) (.nil)))))) (ltn rfl) ?_
  refine HO.call ca13 (.cons rfl (.cons rfl (.nil))) (Melt_w ⟨5, 1, 0, 0, 3⟩ ⟨6, 1, 1, 0, -6⟩ (kmay _ rfl) (kmay _ rfl)) (by exact Rems.nil) (by (refine Reads.ro (.head _) ?_); exact Reads.nil) (ltn rfl) ?_
  rintro v39 L39 ⟨rfl, rfl⟩
  rw [kmelt3]
  dsimp only [List.nil_append, List.cons_append]
  refine HO.v (V.move rfl) (ltn rfl) ?_
  refine HO.v (V.extract rfl rfl) (ltn rfl) ?_
  refine HO.v (V.extract rfl rfl) (ltn rfl) ?_
  refine HO.alloc ze26 rfl (ltn rfl) ?_
  intro b8
  refine HO.store sz26 rfl rfl rfl rfl rfl (by exact .mk .here (by repeat constructor)) ?_
  refine HO.v (V.assign rfl) (ltn rfl) ?_
  refine HO.nil ?_
  refine HQ.keep (.cons (t := 0) rfl (.cons (t := 1) rfl (.cons (t := 2) rfl (.cons (t := 3) rfl (.cons (t := 4) rfl (.cons (t := 5) rfl (.cons (t := 7) rfl (.cons (t := 8) rfl (.cons (t := 9) rfl (.nil)))))))))) ?_
  refine HQ.next ?_
  refine H.seq ?_
  refine H.region ?_
  refine HO.v (V.fieldAddr (fs := #[]) fa38_2 rfl) (ltn rfl) ?_
  refine HO.v (V.load sc24 rfl (by exact .mk (.there (.there (.there (.there (.there (.there .here)))))) rfl)) (ltn rfl) ?_
  refine HO.buildRow (encI .i64) ([1]) Tryd.underlying30 ze3 (.cons rfl (.nil)) (.cons rfl (.nil)) (Nat.le_of_ble_eq_true rfl) (Nat.le_of_ble_eq_true rfl) (ltn rfl) ?_
  intro b45
  refine HO.call ca6 (.cons rfl (.cons rfl (.nil))) (melted13_w kcode _ _ [1] _ _ kright2 (Nat.le_refl _)) (by exact Rems.nil) (by (refine Reads.ro (.head _) ?_); (refine Reads.row (.tail _ (.tail _ (.tail _ (.tail _ (.tail _ (.tail _ (.tail _ (.tail _ (.tail _ (.head _)))))))))) ?_); (refine Reads.row (.head _) ?_); exact Reads.nil) (ltn rfl) ?_
  rintro v46 L46 ⟨rfl, rfl⟩
  dsimp only [List.nil_append, List.cons_append]
  refine HO.v (V.move rfl) (ltn rfl) ?_
  refine HO.v (V.extract rfl rfl) (ltn rfl) ?_
  refine HO.v (V.extract rfl rfl) (ltn rfl) ?_
  refine HO.v (V.assign rfl) (ltn rfl) ?_
  refine HO.v (V.assign rfl) (ltn rfl) ?_
  refine HO.nil ?_
  refine HQ.keep (.cons (t := 0) rfl (.cons (t := 2) rfl (.cons (t := 3) rfl (.cons (t := 4) rfl (.cons (t := 5) rfl (.cons (t := 7) rfl (.cons (t := 8) rfl (.cons (t := 9) rfl (.cons (t := 10) rfl (.cons (t := 11) rfl (.nil))))))))))) ?_
  refine HQ.next ?_
  refine H.seq ?_
  refine H.region ?_
  refine HO.v (V.move rfl) (ltn rfl) ?_
  refine HO.v (V.eqlI rfl rfl) (ltn rfl) ?_
  refine HO.v (V.move rfl) (ltn rfl) ?_
  refine HO.setT (t := 51) rfl (by rfl) ?_
  refine HO.gdo rfl rfl rfl rfl ?_
  refine HO.v (V.fieldAddr (fs := #[]) fa38_2 rfl) (ltn rfl) ?_
  refine HO.gdo rfl rfl rfl rfl ?_
  refine HO.v (V.load sc24 rfl (by exact .mk (.there (.there (.there (.there .here)))) rfl)) (ltn rfl) ?_
  refine HO.gdo rfl rfl rfl rfl ?_
  refine HO.v (V.build ze26 pl26 rfl (.cons rfl (.cons rfl (.nil))) (.cons rfl rfl rfl (by repeat constructor) (.cons rfl rfl rfl (by repeat constructor) (.nil)))) (ltn rfl) ?_
  refine HO.gdo rfl rfl rfl rfl ?_
  refine HO.buildRow encIn ([⟨1, 1, 0, 0, 0⟩]) Tryd.underlying24 ze26 (.cons rfl (.nil)) (.cons rfl (.nil)) (Nat.le_of_ble_eq_true rfl) (Nat.le_of_ble_eq_true rfl) (ltn rfl) ?_
  intro b55
  refine HO.gdo rfl rfl rfl rfl ?_
  refine HO.call ca17 (.cons rfl (.cons rfl (.nil))) (same13_w (passF kcode) [⟨1, 1, 0, 0, 0⟩] _ _ _ _ (by rw [kpass]; decide)) (by exact Rems.nil) (by (refine Reads.row (.tail _ (.tail _ (.tail _ (.tail _ (.tail _ (.tail _ (.head _))))))) ?_); (refine Reads.row (.head _) ?_); exact Reads.nil) (ltn rfl) ?_
  rintro v56 L56 ⟨rfl, rfl⟩
  dsimp only [List.nil_append, List.cons_append]
  refine HO.v (V.pickT rfl rfl) (ltn rfl) ?_
  refine HO.v (V.move rfl) (ltn rfl) ?_
  refine HO.setT (t := 58) rfl (by rw [kpass]; rfl) ?_
  refine HO.gdo rfl rfl rfl rfl ?_
  refine HO.v (V.move rfl) (ltn rfl) ?_
  refine HO.v (V.pickT rfl rfl) (ltn rfl) ?_
  refine HO.v (V.move rfl) (ltn rfl) ?_
  refine HO.setT (t := 61) rfl (by rfl) ?_
  refine HO.gdo rfl rfl rfl rfl ?_
  refine HO.v (V.loadA ag26 rfl (by exact .mk (.there (.there (.there (.there .here)))) (by repeat constructor))) (ltn rfl) ?_
  refine HO.gdo rfl rfl rfl rfl ?_
  refine HO.v (V.build ze26 pl26 rfl (.cons rfl (.cons rfl (.cons rfl (.nil)))) (.cons rfl rfl rfl (by repeat constructor) (.cons rfl rfl rfl (by repeat constructor) (.cons rfl rfl rfl (by repeat constructor) (.nil))))) (ltn rfl) ?_
  refine HO.gdo rfl rfl rfl rfl ?_
  refine HO.v (V.eqlS [_, _, _, _, _] [_, _, _, _, _] if26 rfl rfl rfl rfl) (ltn rfl) ?_
  refine HO.v (V.pickT rfl rfl) (ltn rfl) ?_
  refine HO.v (V.move rfl) (ltn rfl) ?_
  refine HO.setT (t := 66) rfl (by rfl) ?_
  refine HO.gdo rfl rfl rfl rfl ?_
  refine HO.v (V.move rfl) (ltn rfl) ?_
  refine HO.gdo rfl rfl rfl rfl ?_
  refine HO.v (V.not rfl) (ltn rfl) ?_
  refine HO.v (V.pickT rfl rfl) (ltn rfl) ?_
  refine HO.v (V.move rfl) (ltn rfl) ?_
  refine HO.setT (t := 70) rfl (by rfl) ?_
  refine HO.gdo rfl rfl rfl rfl ?_
  refine HO.v (V.move rfl) (ltn rfl) ?_
  refine HO.v (V.pickT rfl rfl) (ltn rfl) ?_
  refine HO.v (V.move rfl) (ltn rfl) ?_
  refine HO.setT (t := 73) rfl (by rfl) ?_
  refine HO.gdo rfl rfl rfl rfl ?_
  refine HO.v (V.loadA ag26 rfl (by exact .mk (.there (.there .here)) (by repeat constructor))) (ltn rfl) ?_
  refine HO.gdo rfl rfl rfl rfl ?_
  refine HO.v (V.build ze26 pl26 rfl (.cons rfl (.cons rfl (.cons rfl (.nil)))) (.cons rfl rfl rfl (by repeat constructor) (.cons rfl rfl rfl (by repeat constructor) (.cons rfl rfl rfl (by repeat constructor) (.nil))))) (ltn rfl) ?_
  refine HO.gdo rfl rfl rfl rfl ?_
  refine HO.v (V.eqlS [_, _, _, _, _] [_, _, _, _, _] if26 rfl rfl rfl rfl) (ltn rfl) ?_
  refine HO.v (V.pickT rfl rfl) (ltn rfl) ?_
  refine HO.v (V.move rfl) (ltn rfl) ?_
  refine HO.setT (t := 78) rfl (by rfl) ?_
  refine HO.gdo rfl rfl rfl rfl ?_
  refine HO.v (V.move rfl) (ltn rfl) ?_
  refine HO.v (V.pickT rfl rfl) (ltn rfl) ?_
  refine HO.v (V.move rfl) (ltn rfl) ?_
  refine HO.setT (t := 81) rfl (by rfl) ?_
  refine HO.gdo rfl rfl rfl rfl ?_
  refine HO.v (V.move rfl) (ltn rfl) ?_
  refine HO.gdo rfl rfl rfl rfl ?_
  refine HO.v (V.eqlI rfl rfl) (ltn rfl) ?_
  refine HO.v (V.pickT rfl rfl) (ltn rfl) ?_
  refine HO.v (V.assign rfl) (ltn rfl) ?_
  refine HO.nil ?_
  refine HQ.keep (.cons (t := 0) rfl (.nil)) ?_
  refine HQ.next ?_
  refine H.ret ?_
  refine HQ.end_ rfl rfl rfl rfl (.inl rfl) _ (fun a w s => res1 Tryd.results7 s rfl) ?_
  refine ⟨_, _, .nil, ?_, rfl⟩
  rw [kpass]; rfl
theorem TopMelted_w (ts : List Trn) (A : Option Addr) (n : Nat) (us : List Int) (B : Option Addr) (m : Nat) (ht : ∀ x ∈ ts, x.Ok) (hu : ∀ u ∈ us, 0 ≤ u ∧ u ≤ 255) (hn : ts.length ≤ 9223372036854775807) (hm : us.length ≤ 9223372036854775807) :
    Tri Tryd.prog 3 #[.slice A ts.length n, .slice B us.length m] [tabCh, roE encTr A ts, roE (encI .u8) B us] [] (fun v L' => v = .bool true ∧ L' = []) := by
  refine Tri.of' 59 [.slice A ts.length n, .slice B us.length m] [(0, .slice A ts.length n), (1, .slice B us.length m)] Tryd.func3 Tryd.ntmps3 rfl rfl rfl ?_
  intro w0
  refine H.seq ?_
  refine H.region ?_
  refine HO.v (V.assign rfl) (ltn rfl) ?_
  refine HO.nil ?_
  refine HQ.next ?_
  refine H.seq ?_
  refine H.region ?_
  refine HO.v (V.assign rfl) (ltn rfl) ?_
  refine HO.nil ?_
  refine HQ.next ?_
  refine H.cut (σ := Nat × List Ins × Option Addr × Nat) (fun s => [(1, .slice B us.length m), (5, .slice s.2.2.1 s.2.1.length s.2.2.2)]) (fun s => [rowE encIn 26 s.2.2.1 s.2.2.2 s.2.1]) (fun s => s.1 ≤ 24 ∧ s.2.1 = (ts.take s.1).map instr13) ?_ ?_
  · skip
    refine H.seq ?_
    refine H.region ?_
    refine HO.v (V.assign rfl) (ltn rfl) ?_
    refine HO.nil ?_
    refine HQ.next ?_
    refine H.block ?_
    refine H.loop (σ := Nat × List Ins × Option Addr × Nat) (fun s => ts.length - s.1) (fun s => [(0, .slice A ts.length n), (1, .slice B us.length m), (5, .slice s.2.2.1 s.2.1.length s.2.2.2), (6, .int .i64 ((s.1 : Nat) : Int))]) (fun s => [rowE encIn 26 s.2.2.1 s.2.2.2 s.2.1]) (fun s => s.1 ≤ 24 ∧ s.1 ≤ ts.length ∧ s.2.1 = (ts.take s.1).map instr13) ((0, [], none, 0)) ?_ ?_ ?_
    · exact ⟨by decide, Nat.zero_le _, rfl⟩
    · skip
      refine HQ.free (rowE encIn 26 none 0 ([] : List Ins)) rfl (fun w => OwnRow.nil w 26 5) ?_
      exact HQ.fits (.cons rfl (.cons rfl (.cons rfl (.cons rfl (.nil))))) (by exact Rems.cons (by exact .here) (Rems.nil))
    intro s hI
    obtain ⟨k, l, Al, cl⟩ := s
    obtain ⟨hk24, hk, hl⟩ := hI
    dsimp only at hk24 hk hl ⊢
    have hll : l.length ≤ 24 := by (rw [hl]; simp; omega)
    refine H.seq ?_
    refine H.seq ?_
    refine H.region ?_
    refine HO.v (V.move rfl) (ltn rfl) ?_
    refine HO.v (V.move rfl) (ltn rfl) ?_
    refine HO.v (V.len Tryd.underlying22 rfl) (ltn rfl) ?_
    refine HO.v (V.lss rfl rfl) (ltn rfl) ?_
    refine HO.v (V.move rfl) (ltn rfl) ?_
    refine HO.part (t := 15) rfl (fun g15 => ?_) (fun g15 => ?_)
    · skip
      try simp only [decide_eq_true_eq, decide_eq_false_iff_not, Bool.not_eq_true', Bool.not_eq_false'] at g15
      refine HO.gdo rfl rfl rfl rfl ?_
      refine HO.v (V.move rfl) (ltn rfl) ?_
      refine HO.gdo rfl rfl rfl rfl ?_
      refine HO.v (V.lss rfl rfl) (ltn rfl) ?_
      refine HO.v (V.pickT rfl rfl) (ltn rfl) ?_
      refine HO.nil ?_
      refine HQ.next ?_
      refine H.condB rfl (fun h18 => ?_) (fun h18 => ?_)
      · skip
        try simp only [decide_eq_true_eq, decide_eq_false_iff_not, Bool.not_eq_true', Bool.not_eq_false'] at h18
        obtain ⟨x, hx⟩ : ∃ x, ts[k]? = some x := ⟨_, List.getElem?_eq_getElem (by omega)⟩
        have hxo := ht x (List.mem_of_getElem? hx)
        refine H.skip ?_
        refine HQ.next ?_
        refine H.seq ?_
        refine H.block ?_
        refine H.region ?_
        refine HO.v (V.move rfl) (ltn rfl) ?_
        refine HO.v (V.move rfl) (ltn rfl) ?_
        refine HO.v (V.move rfl) (ltn rfl) ?_
        refine HO.v (V.indexAddr (N := encTr) (ys := _) Tryd.underlying22 sz29 rfl rfl (by omega) (by omega) (by exact Has.ro (.tail _ (.head _)))) (ltn rfl) ?_
        refine HO.v (V.loadEA (N := encTr) ag29 rfl (by exact .mk (Has.ro (.tail _ (.head _))) (hx) rfl)) (ltn rfl) ?_
        refine HO.call ca5 (.cons rfl (.nil)) (instr13_w x hxo) (by exact Rems.nil) (by exact Reads.nil) (ltn rfl) ?_
        rintro v26 L26 ⟨rfl, rfl⟩
        dsimp only [List.nil_append, List.cons_append]
        refine HO.buildRow encIn ([instr13 x]) Tryd.underlying24 ze26 (.cons rfl (.nil)) (.cons rfl (.nil)) (Nat.le_of_ble_eq_true rfl) (Nat.le_of_ble_eq_true rfl) (ltn rfl) ?_
        intro b27
        refine HO.append (N := encIn) (zs := [instr13 x]) Tryd.underlying24 ze26 rfl rfl rfl (by exact (.there .here)) (by exact Has.own .here) (by first | omega | (simp; omega)) (by decide) (ltn rfl) ?_
        intro A28 c28
        refine HO.v (V.assign rfl) (ltn rfl) ?_
        refine HO.nil ?_
        refine HQ.block_normal ?_
        refine HQ.next ?_
        refine H.region ?_
        refine HO.v (V.move rfl) (ltn rfl) ?_
        refine HO.v (V.add rfl rfl (by omega)) (ltn rfl) ?_
        refine HO.v (V.assign rfl) (ltn rfl) ?_
        refine HO.nil ?_
        refine HQ.round ((k + 1, l ++ [instr13 x], A28, c28)) ?_ ?_ ?_
        · exact ⟨by omega, by omega, by rw [take_snoc hx, List.map_append, ← hl]; rfl⟩
        · dsimp only; omega
        · skip
          exact HQ.fits (.cons rfl (.cons rfl (.cons rfl (.cons rfl (.nil))))) (by exact Rems.cons (by exact .here) (Rems.nil))
      · skip
        try simp only [decide_eq_true_eq, decide_eq_false_iff_not, Bool.not_eq_true', Bool.not_eq_false'] at h18
        refine H.exit ?_
        refine HQ.then_exit ?_
        refine HQ.then_exit ?_
        refine HQ.exit_hit ?_
        refine HQ.cut ((k, l, Al, cl)) ?_ ?_
        · exact ⟨hk24, hl⟩
        · skip
          exact HQ.fits (.cons rfl (.cons rfl (.nil))) (by exact Rems.cons (by exact .here) (Rems.nil))
    · skip
      try simp only [decide_eq_true_eq, decide_eq_false_iff_not, Bool.not_eq_true', Bool.not_eq_false'] at g15
      refine HO.gskip rfl rfl rfl rfl (ltn rfl) ?_
      refine HO.gskip rfl rfl rfl rfl (ltn rfl) ?_
      refine HO.v (V.pickF rfl rfl) (ltn rfl) ?_
      refine HO.nil ?_
      refine HQ.next ?_
      refine H.condF rfl rfl ?_
      refine H.exit ?_
      refine HQ.then_exit ?_
      refine HQ.then_exit ?_
      refine HQ.exit_hit ?_
      refine HQ.cut ((k, l, Al, cl)) ?_ ?_
      · exact ⟨hk24, hl⟩
      · skip
        exact HQ.fits (.cons rfl (.cons rfl (.nil))) (by exact Rems.cons (by exact .here) (Rems.nil))
  rintro ⟨k, l, Al, cl⟩ ⟨hk24, hl⟩
  dsimp only at hk24 hl ⊢
  refine H.seq ?_
  refine H.region ?_
  refine HO.buildRow (encI .i64) ([0]) Tryd.underlying30 ze3 (.cons rfl (.nil)) (.cons rfl (.nil)) (Nat.le_of_ble_eq_true rfl) (Nat.le_of_ble_eq_true rfl) (ltn rfl) ?_
  intro b29
  refine HO.v (V.assign rfl) (ltn rfl) ?_
  refine HO.nil ?_
  refine HQ.next ?_
  refine H.cut (σ := Nat × List Int × Option Addr × Nat) (fun s => [(5, .slice Al l.length cl), (7, .slice s.2.2.1 s.2.1.length s.2.2.2)]) (fun s => [rowE (encI .i64) 3 s.2.2.1 s.2.2.2 s.2.1, rowE encIn 26 Al cl l]) (fun s => s.1 ≤ 4 ∧ s.2.1 = 0 :: (us.take s.1).map (·.tmod 3)) ?_ ?_
  · skip
    refine H.seq ?_
    refine H.region ?_
    refine HO.v (V.assign rfl) (ltn rfl) ?_
    refine HO.nil ?_
    refine HQ.next ?_
    refine H.block ?_
    refine H.loop (σ := Nat × List Int × Option Addr × Nat) (fun s => us.length - s.1) (fun s => [(1, .slice B us.length m), (5, .slice Al l.length cl), (7, .slice s.2.2.1 s.2.1.length s.2.2.2), (8, .int .i64 ((s.1 : Nat) : Int))]) (fun s => [rowE (encI .i64) 3 s.2.2.1 s.2.2.2 s.2.1, rowE encIn 26 Al cl l]) (fun s => s.1 ≤ 4 ∧ s.1 ≤ us.length ∧ s.2.1 = 0 :: (us.take s.1).map (·.tmod 3)) ((0, [0], some ⟨b29, 0, none⟩, 1)) ?_ ?_ ?_
    · exact ⟨by simp, Nat.zero_le _, rfl⟩
    · skip
      exact HQ.fits (.cons rfl (.cons rfl (.cons rfl (.cons rfl (.nil))))) (by exact Rems.cons (by exact .here) (Rems.cons (by exact .here) (Rems.nil)))
    intro s hI
    obtain ⟨q, e, Ae, ce⟩ := s
    obtain ⟨hq4, hq, he⟩ := hI
    dsimp only at hq4 hq he ⊢
    have hel : e.length ≤ 5 := by (rw [he]; simp; omega)
    refine H.seq ?_
    refine H.seq ?_
    refine H.region ?_
    refine HO.v (V.move rfl) (ltn rfl) ?_
    refine HO.v (V.move rfl) (ltn rfl) ?_
    refine HO.v (V.len Tryd.underlying23 rfl) (ltn rfl) ?_
    refine HO.v (V.lss rfl rfl) (ltn rfl) ?_
    refine HO.v (V.move rfl) (ltn rfl) ?_
    refine HO.part (t := 34) rfl (fun g34 => ?_) (fun g34 => ?_)
    · skip
      try simp only [decide_eq_true_eq, decide_eq_false_iff_not, Bool.not_eq_true', Bool.not_eq_false'] at g34
      refine HO.gdo rfl rfl rfl rfl ?_
      refine HO.v (V.move rfl) (ltn rfl) ?_
      refine HO.gdo rfl rfl rfl rfl ?_
      refine HO.v (V.lss rfl rfl) (ltn rfl) ?_
      refine HO.v (V.pickT rfl rfl) (ltn rfl) ?_
      refine HO.nil ?_
      refine HQ.next ?_
      refine H.condB rfl (fun h37 => ?_) (fun h37 => ?_)
      · skip
        try simp only [decide_eq_true_eq, decide_eq_false_iff_not, Bool.not_eq_true', Bool.not_eq_false'] at h37
        obtain ⟨u, hx⟩ : ∃ u, us[q]? = some u := ⟨_, List.getElem?_eq_getElem (by omega)⟩
        have huo := tmod_bd (hu u (List.mem_of_getElem? hx)).1 3 (by decide)
        refine H.skip ?_
        refine HQ.next ?_
        refine H.seq ?_
        refine H.block ?_
        refine H.region ?_
        refine HO.v (V.move rfl) (ltn rfl) ?_
        refine HO.v (V.move rfl) (ltn rfl) ?_
        refine HO.v (V.move rfl) (ltn rfl) ?_
        refine HO.v (V.indexAddr (N := (encI .u8)) (ys := _) Tryd.underlying23 sz5 rfl rfl (by omega) (by omega) (by exact Has.ro (.tail _ (.tail _ (.head _))))) (ltn rfl) ?_
        refine HO.v (V.loadE (N := (encI .u8)) sc5 rfl (by exact .mk (Has.ro (.tail _ (.tail _ (.head _)))) (hx) rfl)) (ltn rfl) ?_
        refine HO.v (V.rem rfl rfl (by omega)) (ltn rfl) ?_
        refine HO.v (V.convI64 Tryd.underlying5 Tryd.underlying3 rfl (by omega)) (ltn rfl) ?_
        refine HO.buildRow (encI .i64) ([u.tmod 3]) Tryd.underlying30 ze3 (.cons rfl (.nil)) (.cons rfl (.nil)) (Nat.le_of_ble_eq_true rfl) (Nat.le_of_ble_eq_true rfl) (ltn rfl) ?_
        intro b47
        refine HO.append (N := (encI .i64)) (zs := [u.tmod 3]) Tryd.underlying30 ze3 rfl rfl rfl (by exact (.there .here)) (by exact Has.own .here) (by first | omega | (simp; omega)) (by decide) (ltn rfl) ?_
        intro A48 c48
        refine HO.v (V.assign rfl) (ltn rfl) ?_
        refine HO.nil ?_
        refine HQ.block_normal ?_
        refine HQ.next ?_
        refine H.region ?_
        refine HO.v (V.move rfl) (ltn rfl) ?_
        refine HO.v (V.add rfl rfl (by omega)) (ltn rfl) ?_
        refine HO.v (V.assign rfl) (ltn rfl) ?_
        refine HO.nil ?_
        refine HQ.round ((q + 1, e ++ [u.tmod 3], A48, c48)) ?_ ?_ ?_
        · exact ⟨by omega, by omega, by rw [take_snoc hx, List.map_append, he]; rfl⟩
        · dsimp only; omega
        · skip
          exact HQ.fits (.cons rfl (.cons rfl (.cons rfl (.cons rfl (.nil))))) (by exact Rems.cons (by exact .here) (Rems.cons (by exact (.there .here)) (Rems.nil)))
      · skip
        try simp only [decide_eq_true_eq, decide_eq_false_iff_not, Bool.not_eq_true', Bool.not_eq_false'] at h37
        refine H.exit ?_
        refine HQ.then_exit ?_
        refine HQ.then_exit ?_
        refine HQ.exit_hit ?_
        refine HQ.cut ((q, e, Ae, ce)) ?_ ?_
        · exact ⟨hq4, he⟩
        · skip
          exact HQ.fits (.cons rfl (.cons rfl (.nil))) (by exact Rems.cons (by exact .here) (Rems.cons (by exact .here) (Rems.nil)))
    · skip
      try simp only [decide_eq_true_eq, decide_eq_false_iff_not, Bool.not_eq_true', Bool.not_eq_false'] at g34
      refine HO.gskip rfl rfl rfl rfl (ltn rfl) ?_
      refine HO.gskip rfl rfl rfl rfl (ltn rfl) ?_
      refine HO.v (V.pickF rfl rfl) (ltn rfl) ?_
      refine HO.nil ?_
      refine HQ.next ?_
      refine H.condF rfl rfl ?_
      refine H.exit ?_
      refine HQ.then_exit ?_
      refine HQ.then_exit ?_
      refine HQ.exit_hit ?_
      refine HQ.cut ((q, e, Ae, ce)) ?_ ?_
      · exact ⟨hq4, he⟩
      · skip
        exact HQ.fits (.cons rfl (.cons rfl (.nil))) (by exact Rems.cons (by exact .here) (Rems.cons (by exact .here) (Rems.nil)))
  rintro ⟨q, e, Ae, ce⟩ ⟨hq4, he⟩
  dsimp only at hq4 he ⊢
  refine H.seq ?_
  refine H.region ?_
  refine HO.v (V.move rfl) (ltn rfl) ?_
  refine HO.v (V.move rfl) (ltn rfl) ?_
  refine HO.room (N := encIn) (ys := l) (by exact (.there .here)) (fun hcap => ?_)
  refine HO.call ca6 (.cons rfl (.cons rfl (.nil))) (melted13_w l _ _ e _ _ (by rw [hl, he]; exact right13 ht hu hk24 hq4) hcap) (by exact Rems.nil) (by (refine Reads.ro (.head _) ?_); (refine Reads.row (.tail _ (.head _)) ?_); (refine Reads.row (.head _) ?_); exact Reads.nil) (ltn rfl) ?_
  rintro v52 L52 ⟨rfl, rfl⟩
  dsimp only [List.nil_append, List.cons_append]
  refine HO.v (V.move rfl) (ltn rfl) ?_
  refine HO.v (V.extract rfl rfl) (ltn rfl) ?_
  refine HO.v (V.extract rfl rfl) (ltn rfl) ?_
  refine HO.v (V.assign rfl) (ltn rfl) ?_
  refine HO.v (V.assign rfl) (ltn rfl) ?_
  refine HO.nil ?_
  refine HQ.keep (.cons (t := 10) rfl (.nil)) ?_
  refine HQ.next ?_
  refine H.seq ?_
  refine H.region ?_
  refine HO.v (V.move rfl) (ltn rfl) ?_
  refine HO.v (V.move rfl) (ltn rfl) ?_
  refine HO.setT (t := 56) rfl (by rfl) ?_
  refine HO.gdo rfl rfl rfl rfl ?_
  refine HO.call ca7 (.nil) (knows13_w) (by exact Rems.nil) (by (refine Reads.ro (.head _) ?_); exact Reads.nil) (ltn rfl) ?_
  rintro v57 L57 ⟨rfl, rfl⟩
  dsimp only [List.nil_append, List.cons_append]
  refine HO.v (V.pickT rfl rfl) (ltn rfl) ?_
  refine HO.v (V.assign rfl) (ltn rfl) ?_
  refine HO.nil ?_
  refine HQ.next ?_
  refine H.ret ?_
  refine HQ.end_ rfl rfl rfl rfl (.inl rfl) _ (fun a w s => res1 Tryd.results3 s rfl) ?_
  exact ⟨_, _, .nil, rfl, rfl⟩

end Go.Proofs.YtmkoadgphhkfgaaDoor
