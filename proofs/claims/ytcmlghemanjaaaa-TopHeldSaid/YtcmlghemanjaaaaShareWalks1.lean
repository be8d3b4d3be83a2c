/- Walks of package share's table: who holds a value, an instruction's key, what it asks. Conditions: as the theorems say. -/
import Derived.Test.YtcmlghemanjaaaaPgH
import Derived.Test.YtcmlghemanjaaaaSlU
import Derived.Test.YtcmlghemanjaaaaPgWalks1
set_option linter.unusedVariables false
set_option linter.unusedSimpArgs false
set_option maxRecDepth 10000
namespace Go.Proofs.Ytcmlghemanjaaaa
open Go Go.RowKit Sl Pg
abbrev tabCell (bT : Nat) (H : Option Addr) (n hc b1 b2 : Nat) (next : Int) : Ch := cellsCh bT 64 [.slice H n hc, .map (some b1), .map (some b2), .int .i64 next]

set_option maxRecDepth 100000
theorem ag69 : Aggr Go.Proofs.Try.prog 69 4 := ⟨by kernel_rfl, by kernel_rfl⟩
theorem ca19 : Callable Go.Proofs.Try.prog 19 := by unfold Callable; kernel_rfl
theorem fa64_0 : (Go.Proofs.Try.prog.underlying 64).bind (fun | .struct fs => (fs[0]?).bind fun f => (Go.Proofs.Try.prog.info? f.type).map fun j => (f.offset, j.size == 0) | _ => none) = some (0, false) := by kernel_rfl
theorem fa69_1 : (Go.Proofs.Try.prog.underlying 69).bind (fun | .struct fs => (fs[1]?).bind fun f => (Go.Proofs.Try.prog.info? f.type).map fun j => (f.offset, j.size == 0) | _ => none) = some (1, false) := by kernel_rfl
theorem fa69_2 : (Go.Proofs.Try.prog.underlying 69).bind (fun | .struct fs => (fs[2]?).bind fun f => (Go.Proofs.Try.prog.info? f.type).map fun j => (f.offset, j.size == 0) | _ => none) = some (2, false) := by kernel_rfl
theorem pl69 : Places Go.Proofs.Try.prog 69 [(0, 1), (1, 1), (2, 1), (3, 1)] := ⟨_, Go.Proofs.Try.underlying69, by kernel_rfl⟩
theorem sz69 : (Go.Proofs.Try.prog.info? 69).map (·.size) = some 4 := by kernel_rfl
theorem ze69 : TyZ Go.Proofs.Try.prog 69 (.agg #[(.int .i64 0), (.int .i64 0), (.int .i64 0), (.int .i64 0)]) 4 32 := by unfold TyZ; kernel_rfl
set_option maxRecDepth 10000

theorem holder_w (bT : Nat) (Ha : Option Addr) (hc b1 b2 : Nat) (next : Int) (held : List Int) (v : Int) (hlen : held.length ≤ 1000000) :
    Tri Try.prog 19 #[.pointer (some ⟨bT, 0, none⟩), .int .i64 v] [tabCell bT Ha held.length hc b1 b2 next, roE (encI .i64) Ha held] [] (fun u L' => u = .int .i64 (holder held v) ∧ L' = []) := by
  refine Tri.of' 22 [.pointer (some ⟨bT, 0, none⟩), .int .i64 v] [(0, .pointer (some ⟨bT, 0, none⟩)), (1, .int .i64 v)] Try.func19 Try.ntmps19 rfl rfl rfl ?_
  intro w0
  refine H.seq ?_
  refine H.region ?_
  refine HO.v (V.assign rfl) (ltn rfl) ?_
  refine HO.nil ?_
  refine HQ.next ?_
  refine H.scope rfl ?_
  refine H.seq ?_
  refine H.label ?_
  refine HQ.next ?_
  refine H.seq ?_
  refine H.seq ?_
  refine H.region ?_
  refine HO.v (V.move rfl) (ltn rfl) ?_
  refine HO.v (V.nilCheck rfl) (ltn rfl) ?_
  refine HO.v (V.fieldAddr (fs := #[]) fa64_0 rfl) (ltn rfl) ?_
  refine HO.v (V.loadR sc27 rfl (by exact (.head _)) rfl) (ltn rfl) ?_
  refine HO.v (V.len Try.underlying27 rfl) (ltn rfl) ?_
  refine HO.v (V.move rfl) (ltn rfl) ?_
  refine HO.nil ?_
  refine HQ.keep (.cons (t := 1) rfl (.cons (t := 4) rfl (.cons (t := 10) rfl (.cons (t := 11) rfl (.cons (t := 12) rfl (.nil)))))) ?_
  refine HQ.next ?_
  refine H.block ?_
  refine H.loop (σ := Nat) (fun s => held.length - s) (fun s => [(1, .int .i64 v), (10, .slice Ha held.length hc), (11, .int .i64 ((held.length : Nat) : Int)), (12, .int .i64 ((s : Nat) : Int))]) (fun s => []) (fun s => s ≤ held.length ∧ ∀ j, j < s → held[j]? ≠ some v) (0) ?_ ?_ ?_
  · exact ⟨Nat.zero_le _, fun j hj => absurd hj (Nat.not_lt_zero _)⟩
  · skip
    exact HQ.fits (.cons rfl (.cons rfl (.cons rfl (.cons rfl (.nil))))) (by exact Rems.nil)
  intro k hI
  obtain ⟨hk, hno⟩ := hI
  try dsimp only at hk hno ⊢
  refine H.seq ?_
  refine H.region ?_
  refine HO.v (V.lss rfl rfl) (ltn rfl) ?_
  refine HO.nil ?_
  refine HQ.next ?_
  refine H.seq ?_
  refine H.condB rfl (fun h13 => ?_) (fun h13 => ?_)
  · skip
    try simp only [decide_eq_true_eq, decide_eq_false_iff_not, Bool.not_eq_true', Bool.not_eq_false'] at h13
    obtain ⟨x, hx⟩ : ∃ x, held[k]? = some x := ⟨_, List.getElem?_eq_getElem (by omega)⟩
    refine H.skip ?_
    refine HQ.next ?_
    refine H.seq ?_
    refine H.block ?_
    refine H.seq ?_
    refine H.region ?_
    refine HO.v (V.move rfl) (ltn rfl) ?_
    refine HO.v (V.indexAddr (N := (encI .i64)) (ys := _) Try.underlying27 sz3 rfl rfl (by omega) (by omega) (by exact Has.ro (.tail _ (.head _)))) (ltn rfl) ?_
    refine HO.v (V.loadE (N := (encI .i64)) sc3 rfl (by exact .mk (Has.ro (.tail _ (.head _))) (hx) rfl)) (ltn rfl) ?_
    refine HO.v (V.assign rfl) (ltn rfl) ?_
    refine HO.v (V.assign rfl) (ltn rfl) ?_
    refine HO.nil ?_
    refine HQ.next ?_
    refine H.seq ?_
    refine H.seq ?_
    refine H.region ?_
    refine HO.v (V.move rfl) (ltn rfl) ?_
    refine HO.v (V.move rfl) (ltn rfl) ?_
    refine HO.v (V.neqI rfl rfl) (ltn rfl) ?_
    refine HO.nil ?_
    refine HQ.next ?_
    refine H.condB rfl (fun h19 => ?_) (fun h19 => ?_)
    · skip
      try simp only [decide_eq_true_eq, decide_eq_false_iff_not, Bool.not_eq_true', Bool.not_eq_false'] at h19
      refine H.exit ?_
      refine HQ.then_exit ?_
      refine HQ.exit_hit ?_
      refine HQ.next ?_
      refine H.region ?_
      refine HO.v (V.add rfl rfl (by omega)) (ltn rfl) ?_
      refine HO.v (V.move rfl) (ltn rfl) ?_
      refine HO.nil ?_
      refine HQ.round (k + 1) ?_ ?_ ?_
      · exact ⟨by omega, fun j hj => by (rcases Nat.lt_or_ge j k with h | h; exact hno j h; (have : j = k := by omega); subst this; rw [hx]; intro e; injection e with e; exact h19 e)⟩
      · omega
      · skip
        exact HQ.fits (.cons rfl (.cons rfl (.cons rfl (.cons rfl (.nil))))) (by exact Rems.nil)
    · skip
      try simp only [decide_eq_true_eq, decide_eq_false_iff_not, Bool.not_eq_true', Bool.not_eq_false'] at h19
      refine H.skip ?_
      refine HQ.next ?_
      refine H.seq ?_
      refine H.region ?_
      refine HO.v (V.move rfl) (ltn rfl) ?_
      refine HO.v (V.assign rfl) (ltn rfl) ?_
      refine HO.nil ?_
      refine HQ.next ?_
      refine H.ret ?_
      refine HQ.block_ret ?_
      refine HQ.then_ret ?_
      refine HQ.then_ret ?_
      refine HQ.block_ret ?_
      refine HQ.then_ret ?_
      refine HQ.scope_ret ?_
      refine HQ.end_ rfl rfl rfl rfl (.inl rfl) _ (fun a w s => res1 Try.results19 s rfl) ?_
      refine ⟨_, _, .nil, ?_, rfl⟩
      rw [holder_hit (k := k) (by rw [hx, h19]) hno]
  · skip
    try simp only [decide_eq_true_eq, decide_eq_false_iff_not, Bool.not_eq_true', Bool.not_eq_false'] at h13
    refine H.exit ?_
    refine HQ.then_exit ?_
    refine HQ.then_exit ?_
    refine HQ.exit_hit ?_
    refine HQ.next ?_
    refine H.seq ?_
    refine H.region ?_
    refine HO.v (V.assign rfl) (ltn rfl) ?_
    refine HO.nil ?_
    refine HQ.next ?_
    refine H.ret ?_
    refine HQ.scope_ret ?_
    refine HQ.end_ rfl rfl rfl rfl (.inl rfl) _ (fun a w s => res1 Try.results19 s rfl) ?_
    refine ⟨_, _, .nil, ?_, rfl⟩
    rw [holder_none (fun j hj => hno j (by omega))]
theorem keyed_w (bT : Nat) (Ha : Option Addr) (hc b1 b2 : Nat) (next : Int) (held : List Int) (i : Ins) (hlen : held.length ≤ 1000000) (h1 : 1 ≤ i.op) (h8 : i.op ≤ 8) (ha : 0 ≤ i.a ∧ i.a < held.length) (hb : i.op = 3 ∨ i.op = 4 → 0 ≤ i.b ∧ i.b < held.length) :
    Tri Try.prog 22 #[.pointer (some ⟨bT, 0, none⟩), vIn i] [tabCell bT Ha held.length hc b1 b2 next, roE (encI .i64) Ha held] [] (fun u L' => u = .agg #[.int .i64 (keyed held i).1, .int .i64 (keyed held i).2.1, .int .i64 (keyed held i).2.2.1, .int .i64 (keyed held i).2.2.2] ∧ L' = []) := by
  have hal := asks_len i
  have hat := at_some ha.1 ha.2
  have hag : (1 < ((asks i).length : Int)) ↔ (i.op = 3 ∨ i.op = 4) := asks_more h1 h8
  refine Tri.of' 49 [.pointer (some ⟨bT, 0, none⟩), vIn i] [(0, .pointer (some ⟨bT, 0, none⟩)), (1, vIn i)] Try.func22 Try.ntmps22 rfl rfl rfl ?_
  intro w0
  refine H.seq ?_
  refine H.region ?_
  refine HO.box rfl rfl (ltn rfl) ?_
  intro b3
  refine HO.alloc ze69 rfl (ltn rfl) ?_
  intro b4
  refine HO.nil ?_
  refine HQ.next ?_
  refine H.seq ?_
  refine H.drawsP _ [] [[], [0], [], [2], [3], [4], [], [6], [5, 7], [8], [], [10], [1, 9, 11], [], [13, 12, 0, 1, 2, 3, 4, 5, 6, 7, 8, 9, 10, 11, 12, 13]] (.take 0 (.take 1 (.take 2 (.take 3 (.take 4 (.take 5 (.take 6 (.take 7 (.take 8 (.take 9 (.take 10 (.take 11 (.take 12 (.one 13 (.one 14 .done))))))))))))))) (Picks.sub (.cons (i := 0) rfl (.cons (i := 1) rfl (.nil)))) (by kernel_rfl) (by kernel_rfl) (by kernel_rfl) (by kernel_rfl) (by kernel_rfl) ?_
  refine HP.take (i := 0) rfl rfl (ltn rfl) (gives_of want_none (V.fieldAddr (fs := #[]) fa50_0 rfl)) (.cons (by exact (.head _)) (.cons (by exact (.tail _ (.head _))) (Sub.nil))) ?_
  refine HP.take (i := 1) rfl rfl (ltn rfl) (gives_of want_none (V.load sc3 rfl (by exact .mk (.there .here) rfl))) (.cons (by exact (.head _)) (.cons (by exact (.tail _ (.head _))) (Sub.nil))) ?_
  refine HP.take (i := 2) rfl rfl (ltn rfl) (gives_of want_none (V.move rfl)) (.cons (by exact (.head _)) (.cons (by exact (.tail _ (.head _))) (Sub.nil))) ?_
  refine HP.take (i := 3) rfl rfl (ltn rfl) (gives_of want_none (V.nilCheck rfl)) (.cons (by exact (.head _)) (.cons (by exact (.tail _ (.head _))) (Sub.nil))) ?_
  refine HP.take (i := 4) rfl rfl (ltn rfl) (gives_of want_none (V.fieldAddr (fs := #[]) fa64_0 rfl)) (.cons (by exact (.head _)) (.cons (by exact (.tail _ (.head _))) (Sub.nil))) ?_
  refine HP.take (i := 5) rfl rfl (ltn rfl) (gives_of want_none (V.loadR sc27 rfl (by exact (.head _)) rfl)) (.cons (by exact (.head _)) (.cons (by exact (.tail _ (.head _))) (Sub.nil))) ?_
  refine HP.take (i := 6) rfl rfl (ltn rfl) (gives_of want_none (V.fieldAddr (fs := #[]) fa50_2 rfl)) (.cons (by exact (.head _)) (.cons (by exact (.tail _ (.head _))) (Sub.nil))) ?_
  refine HP.take (i := 7) rfl rfl (ltn rfl) (gives_of want_none (V.load sc3 rfl (by exact .mk (.there .here) rfl))) (.cons (by exact (.head _)) (.cons (by exact (.tail _ (.head _))) (Sub.nil))) ?_
  refine HP.take (i := 8) rfl rfl (ltn rfl) (gives_of want_none (V.indexAddr (N := (encI .i64)) (ys := _) Try.underlying27 sz3 rfl rfl (by omega) (by omega) (by exact Has.ro (.tail _ (.head _))))) (.cons (by exact (.head _)) (.cons (by exact (.tail _ (.head _))) (Sub.nil))) ?_
  refine HP.take (i := 9) rfl rfl (ltn rfl) (gives_of want_none (V.loadE (N := (encI .i64)) sc3 rfl (by exact .mk (Has.ro (.tail _ (.head _))) (hat) rfl))) (.cons (by exact (.head _)) (.cons (by exact (.tail _ (.head _))) (Sub.nil))) ?_
  refine HP.take (i := 10) rfl rfl (ltn rfl) (gives_of want_none (V.fieldAddr (fs := #[]) fa50_4 rfl)) (.cons (by exact (.head _)) (.cons (by exact (.tail _ (.head _))) (Sub.nil))) ?_
  refine HP.take (i := 11) rfl rfl (ltn rfl) (gives_of want_none (V.load sc3 rfl (by exact .mk (.there .here) rfl))) (.cons (by exact (.head _)) (.cons (by exact (.tail _ (.head _))) (Sub.nil))) ?_
  refine HP.take (i := 12) rfl rfl (ltn rfl) (gives_of want_none (V.build ze69 pl69 rfl (.cons rfl (.cons rfl (.cons rfl (.cons rfl (.nil))))) (.cons rfl rfl rfl (by repeat constructor) (.cons rfl rfl rfl (by repeat constructor) (.cons rfl rfl rfl (by repeat constructor) (.cons rfl rfl rfl (by repeat constructor) (.nil))))))) (.cons (by exact (.head _)) (.cons (by exact (.tail _ (.head _))) (Sub.nil))) ?_
  refine HP.one (i := 13) rfl ?_
  intro fuel listed hno haf hrp hpk hfs
  refine HO.alloc ze69 rfl (ltn rfl) ?_
  intro b5
  refine HO.nil ?_
  refine HQ.nxt hno haf hrp hpk hfs (.cons (by exact (.tail _ (.head _))) (.cons (by exact (.tail _ (.tail _ (.head _)))) (Sub.nil))) ?_
  refine HP.one (i := 14) rfl ?_
  intro fuel listed hno haf hrp hpk hfs
  refine HO.store sz69 rfl rfl rfl rfl rfl (by exact .mk .here (by repeat constructor)) ?_
  refine HO.nil ?_
  refine HQ.nxt hno haf hrp hpk hfs (.cons (by exact (.tail _ (.head _))) (.cons (by exact (.tail _ (.tail _ (.head _)))) (Sub.nil))) ?_
  refine HP.done ?_
  refine HQ.keep (.cons (t := 0) rfl (.cons (t := 3) rfl (.cons (t := 4) rfl (.cons (t := 5) rfl (.nil))))) ?_
  refine HQ.next ?_
  refine H.seq ?_
  refine H.seq ?_
  refine H.region ?_
  refine HO.v (V.loadA ag50 rfl (by exact .mk (.there (.there .here)) (by repeat constructor))) (ltn rfl) ?_
  refine HO.call ca23 (.cons rfl (.nil)) (asks_w i h1 h8) (by exact Rems.nil) (by exact Reads.nil) (ltn rfl) ?_
  rintro v20 L20 ⟨A20, c20, rfl, rfl⟩
  dsimp only [List.nil_append, List.cons_append]
  refine HO.v (V.len Try.underlying27 rfl) (ltn rfl) ?_
  refine HO.v (V.gtr rfl rfl) (ltn rfl) ?_
  refine HO.nil ?_
  refine HQ.keep (.cons (t := 0) rfl (.cons (t := 3) rfl (.cons (t := 4) rfl (.cons (t := 5) rfl (.cons (t := 22) rfl (.nil)))))) ?_
  refine HQ.next ?_
  refine H.condB rfl (fun h22 => ?_) (fun h22 => ?_)
  · skip
    try simp only [decide_eq_true_eq, decide_eq_false_iff_not, Bool.not_eq_true', Bool.not_eq_false'] at h22
    have hbb := hb (hag.1 h22)
    have hbt := at_some hbb.1 hbb.2
    refine H.drawsP _ [9] [[], [0], [1], [2], [], [4], [3, 5], [6], [0, 1, 2, 3, 4, 5, 6, 7], [8, 7, 0, 1, 2, 3, 4, 5, 6, 7]] (.take 0 (.take 1 (.take 2 (.take 3 (.take 4 (.take 5 (.take 6 (.take 7 (.take 8 (.one 9 .done)))))))))) (Picks.sub (.cons (i := 0) rfl (.cons (i := 2) rfl (.cons (i := 3) rfl (.nil))))) (by kernel_rfl) (by kernel_rfl) (by kernel_rfl) (by kernel_rfl) (by kernel_rfl) ?_
    refine HP.take (i := 0) rfl rfl (ltn rfl) (gives_of want_none (V.move rfl)) (.cons (by exact (.head _)) (.cons (by exact (.tail _ (.tail _ (.head _)))) (.cons (by exact (.tail _ (.tail _ (.tail _ (.head _))))) (Sub.nil)))) ?_
    refine HP.take (i := 1) rfl rfl (ltn rfl) (gives_of want_none (V.nilCheck rfl)) (.cons (by exact (.head _)) (.cons (by exact (.tail _ (.tail _ (.head _)))) (.cons (by exact (.tail _ (.tail _ (.tail _ (.head _))))) (Sub.nil)))) ?_
    refine HP.take (i := 2) rfl rfl (ltn rfl) (gives_of want_none (V.fieldAddr (fs := #[]) fa64_0 rfl)) (.cons (by exact (.head _)) (.cons (by exact (.tail _ (.tail _ (.head _)))) (.cons (by exact (.tail _ (.tail _ (.tail _ (.head _))))) (Sub.nil)))) ?_
    refine HP.take (i := 3) rfl rfl (ltn rfl) (gives_of want_none (V.loadR sc27 rfl (by exact (.head _)) rfl)) (.cons (by exact (.head _)) (.cons (by exact (.tail _ (.tail _ (.head _)))) (.cons (by exact (.tail _ (.tail _ (.tail _ (.head _))))) (Sub.nil)))) ?_
    refine HP.take (i := 4) rfl rfl (ltn rfl) (gives_of want_none (V.fieldAddr (fs := #[]) fa50_3 rfl)) (.cons (by exact (.head _)) (.cons (by exact (.tail _ (.tail _ (.head _)))) (.cons (by exact (.tail _ (.tail _ (.tail _ (.head _))))) (Sub.nil)))) ?_
    refine HP.take (i := 5) rfl rfl (ltn rfl) (gives_of want_none (V.load sc3 rfl (by exact .mk (.there (.there .here)) rfl))) (.cons (by exact (.head _)) (.cons (by exact (.tail _ (.tail _ (.head _)))) (.cons (by exact (.tail _ (.tail _ (.tail _ (.head _))))) (Sub.nil)))) ?_
    refine HP.take (i := 6) rfl rfl (ltn rfl) (gives_of want_none (V.indexAddr (N := (encI .i64)) (ys := _) Try.underlying27 sz3 rfl rfl (by omega) (by omega) (by exact Has.ro (.tail _ (.head _))))) (.cons (by exact (.head _)) (.cons (by exact (.tail _ (.tail _ (.head _)))) (.cons (by exact (.tail _ (.tail _ (.tail _ (.head _))))) (Sub.nil)))) ?_
    refine HP.take (i := 7) rfl rfl (ltn rfl) (gives_of want_none (V.loadE (N := (encI .i64)) sc3 rfl (by exact .mk (Has.ro (.tail _ (.head _))) (hbt) rfl))) (.cons (by exact (.head _)) (.cons (by exact (.tail _ (.tail _ (.head _)))) (.cons (by exact (.tail _ (.tail _ (.tail _ (.head _))))) (Sub.nil)))) ?_
    refine HP.take (i := 8) rfl rfl (ltn rfl) (gives_of want_none (V.fieldAddr (fs := #[]) fa69_2 rfl)) (.cons (by exact (.head _)) (.cons (by exact (.tail _ (.tail _ (.head _)))) (.cons (by exact (.tail _ (.tail _ (.tail _ (.head _))))) (Sub.nil)))) ?_
    refine HP.one (i := 9) rfl ?_
    intro fuel listed hno haf hrp hpk hfs
    refine HO.store sz3 rfl rfl rfl rfl rfl (by exact .mk (.there .here) (by repeat constructor)) ?_
    refine HO.nil ?_
    refine HQ.nxtF (m := 9) hno haf hrp hpk hfs (by decide) (by kernel_rfl) rfl ?_
    refine HP.done ?_
    refine HQ.keep (.cons (t := 3) rfl (.cons (t := 4) rfl (.cons (t := 5) rfl (.nil)))) ?_
    refine HQ.next ?_
    refine H.seq ?_
    refine H.seq ?_
    refine H.region ?_
    refine HO.v (V.fieldAddr (fs := #[]) fa50_0 rfl) (ltn rfl) ?_
    refine HO.v (V.load sc3 rfl (by exact .mk (.there (.there (.there .here))) rfl)) (ltn rfl) ?_
    refine HO.v (V.eqlI rfl rfl) (ltn rfl) ?_
    refine HO.v (V.move rfl) (ltn rfl) ?_
    refine HO.part (t := 35) rfl (fun g35 => ?_) (fun g35 => ?_)
    · skip
      try simp only [decide_eq_true_eq, decide_eq_false_iff_not, Bool.not_eq_true', Bool.not_eq_false'] at g35
      refine HO.gdo rfl rfl rfl rfl ?_
      refine HO.v (V.fieldAddr (fs := #[]) fa69_2 rfl) (ltn rfl) ?_
      refine HO.gdo rfl rfl rfl rfl ?_
      refine HO.v (V.load sc3 rfl (by exact .mk .here rfl)) (ltn rfl) ?_
      refine HO.gdo rfl rfl rfl rfl ?_
      refine HO.v (V.fieldAddr (fs := #[]) fa69_1 rfl) (ltn rfl) ?_
      refine HO.gdo rfl rfl rfl rfl ?_
      refine HO.v (V.load sc3 rfl (by exact .mk .here rfl)) (ltn rfl) ?_
      refine HO.gdo rfl rfl rfl rfl ?_
      refine HO.v (V.lss rfl rfl) (ltn rfl) ?_
      refine HO.v (V.pickT rfl rfl) (ltn rfl) ?_
      refine HO.nil ?_
      refine HQ.keep (.cons (t := 4) rfl (.cons (t := 5) rfl (.cons (t := 41) rfl (.nil)))) ?_
      refine HQ.next ?_
      refine H.condB rfl (fun h41 => ?_) (fun h41 => ?_)
      · skip
        try simp only [decide_eq_true_eq, decide_eq_false_iff_not, Bool.not_eq_true', Bool.not_eq_false'] at h41
        refine H.region ?_
        refine HO.v (V.fieldAddr (fs := #[]) fa69_2 rfl) (ltn rfl) ?_
        refine HO.v (V.load sc3 rfl (by exact .mk .here rfl)) (ltn rfl) ?_
        refine HO.v (V.fieldAddr (fs := #[]) fa69_1 rfl) (ltn rfl) ?_
        refine HO.v (V.load sc3 rfl (by exact .mk .here rfl)) (ltn rfl) ?_
        refine HO.v (V.fieldAddr (fs := #[]) fa69_1 rfl) (ltn rfl) ?_
        refine HO.store sz3 rfl rfl rfl rfl rfl (by exact .mk .here (by repeat constructor)) ?_
        refine HO.v (V.fieldAddr (fs := #[]) fa69_2 rfl) (ltn rfl) ?_
        refine HO.store sz3 rfl rfl rfl rfl rfl (by exact .mk .here (by repeat constructor)) ?_
        refine HO.nil ?_
        refine HQ.keep (.cons (t := 4) rfl (.cons (t := 5) rfl (.nil))) ?_
        refine HQ.next ?_
        refine H.seq ?_
        refine H.region ?_
        refine HO.v (V.loadA ag69 rfl (by exact .mk .here (by repeat constructor))) (ltn rfl) ?_
        refine HO.store sz69 rfl rfl rfl rfl rfl (by exact .mk (.there (.there .here)) (by repeat constructor)) ?_
        refine HO.nil ?_
        refine HQ.next ?_
        refine H.ret ?_
        refine HQ.end_ rfl rfl rfl rfl (.inl rfl) _ (fun a w s => resR1 Try.results22 s (.agg ag69 rfl (by exact .mk .here (by repeat constructor)))) ?_
        refine ⟨_, _, .nil, ?_, rfl⟩
        unfold keyed
        first | (exfalso; omega) | ((repeat (first | rw [if_pos (by omega)] | rw [if_neg (by omega)])); first | done | rfl)
      · skip
        try simp only [decide_eq_true_eq, decide_eq_false_iff_not, Bool.not_eq_true', Bool.not_eq_false'] at h41
        refine H.skip ?_
        refine HQ.next ?_
        refine H.seq ?_
        refine H.region ?_
        refine HO.v (V.loadA ag69 rfl (by exact .mk .here (by repeat constructor))) (ltn rfl) ?_
        refine HO.store sz69 rfl rfl rfl rfl rfl (by exact .mk (.there (.there .here)) (by repeat constructor)) ?_
        refine HO.nil ?_
        refine HQ.next ?_
        refine H.ret ?_
        refine HQ.end_ rfl rfl rfl rfl (.inl rfl) _ (fun a w s => resR1 Try.results22 s (.agg ag69 rfl (by exact .mk .here (by repeat constructor)))) ?_
        refine ⟨_, _, .nil, ?_, rfl⟩
        unfold keyed
        first | (exfalso; omega) | ((repeat (first | rw [if_pos (by omega)] | rw [if_neg (by omega)])); first | done | rfl)
    · skip
      try simp only [decide_eq_true_eq, decide_eq_false_iff_not, Bool.not_eq_true', Bool.not_eq_false'] at g35
      refine HO.gskip rfl rfl rfl rfl (ltn rfl) ?_
      refine HO.gskip rfl rfl rfl rfl (ltn rfl) ?_
      refine HO.gskip rfl rfl rfl rfl (ltn rfl) ?_
      refine HO.gskip rfl rfl rfl rfl (ltn rfl) ?_
      refine HO.gskip rfl rfl rfl rfl (ltn rfl) ?_
      refine HO.v (V.pickF rfl rfl) (ltn rfl) ?_
      refine HO.nil ?_
      refine HQ.keep (.cons (t := 4) rfl (.cons (t := 5) rfl (.cons (t := 41) rfl (.nil)))) ?_
      refine HQ.next ?_
      refine H.condF rfl rfl ?_
      refine H.skip ?_
      refine HQ.next ?_
      refine H.seq ?_
      refine H.region ?_
      refine HO.v (V.loadA ag69 rfl (by exact .mk .here (by repeat constructor))) (ltn rfl) ?_
      refine HO.store sz69 rfl rfl rfl rfl rfl (by exact .mk (.there (.there .here)) (by repeat constructor)) ?_
      refine HO.nil ?_
      refine HQ.next ?_
      refine H.ret ?_
      refine HQ.end_ rfl rfl rfl rfl (.inl rfl) _ (fun a w s => resR1 Try.results22 s (.agg ag69 rfl (by exact .mk .here (by repeat constructor)))) ?_
      refine ⟨_, _, .nil, ?_, rfl⟩
      unfold keyed
      first | (exfalso; omega) | ((repeat (first | rw [if_pos (by omega)] | rw [if_neg (by omega)])); first | done | rfl)
  · skip
    try simp only [decide_eq_true_eq, decide_eq_false_iff_not, Bool.not_eq_true', Bool.not_eq_false'] at h22
    refine H.skip ?_
    refine HQ.next ?_
    refine H.seq ?_
    refine H.seq ?_
    refine H.region ?_
    refine HO.v (V.fieldAddr (fs := #[]) fa50_0 rfl) (ltn rfl) ?_
    refine HO.v (V.load sc3 rfl (by exact .mk (.there (.there (.there .here))) rfl)) (ltn rfl) ?_
    refine HO.v (V.eqlI rfl rfl) (ltn rfl) ?_
    refine HO.v (V.move rfl) (ltn rfl) ?_
    refine HO.part (t := 35) rfl (fun g35 => ?_) (fun g35 => ?_)
    · skip
      try simp only [decide_eq_true_eq, decide_eq_false_iff_not, Bool.not_eq_true', Bool.not_eq_false'] at g35
      refine HO.gdo rfl rfl rfl rfl ?_
      refine HO.v (V.fieldAddr (fs := #[]) fa69_2 rfl) (ltn rfl) ?_
      refine HO.gdo rfl rfl rfl rfl ?_
      refine HO.v (V.load sc3 rfl (by exact .mk (.there .here) rfl)) (ltn rfl) ?_
      refine HO.gdo rfl rfl rfl rfl ?_
      refine HO.v (V.fieldAddr (fs := #[]) fa69_1 rfl) (ltn rfl) ?_
      refine HO.gdo rfl rfl rfl rfl ?_
      refine HO.v (V.load sc3 rfl (by exact .mk (.there .here) rfl)) (ltn rfl) ?_
      refine HO.gdo rfl rfl rfl rfl ?_
      refine HO.v (V.lss rfl rfl) (ltn rfl) ?_
      refine HO.v (V.pickT rfl rfl) (ltn rfl) ?_
      refine HO.nil ?_
      refine HQ.keep (.cons (t := 4) rfl (.cons (t := 5) rfl (.cons (t := 41) rfl (.nil)))) ?_
      refine HQ.next ?_
      refine H.condB rfl (fun h41 => ?_) (fun h41 => ?_)
      · skip
        try simp only [decide_eq_true_eq, decide_eq_false_iff_not, Bool.not_eq_true', Bool.not_eq_false'] at h41
        refine H.region ?_
        refine HO.v (V.fieldAddr (fs := #[]) fa69_2 rfl) (ltn rfl) ?_
        refine HO.v (V.load sc3 rfl (by exact .mk (.there .here) rfl)) (ltn rfl) ?_
        refine HO.v (V.fieldAddr (fs := #[]) fa69_1 rfl) (ltn rfl) ?_
        refine HO.v (V.load sc3 rfl (by exact .mk (.there .here) rfl)) (ltn rfl) ?_
        refine HO.v (V.fieldAddr (fs := #[]) fa69_1 rfl) (ltn rfl) ?_
        refine HO.store sz3 rfl rfl rfl rfl rfl (by exact .mk (.there .here) (by repeat constructor)) ?_
        refine HO.v (V.fieldAddr (fs := #[]) fa69_2 rfl) (ltn rfl) ?_
        refine HO.store sz3 rfl rfl rfl rfl rfl (by exact .mk .here (by repeat constructor)) ?_
        refine HO.nil ?_
        refine HQ.keep (.cons (t := 4) rfl (.cons (t := 5) rfl (.nil))) ?_
        refine HQ.next ?_
        refine H.seq ?_
        refine H.region ?_
        refine HO.v (V.loadA ag69 rfl (by exact .mk .here (by repeat constructor))) (ltn rfl) ?_
        refine HO.store sz69 rfl rfl rfl rfl rfl (by exact .mk (.there (.there .here)) (by repeat constructor)) ?_
        refine HO.nil ?_
        refine HQ.next ?_
        refine H.ret ?_
        refine HQ.end_ rfl rfl rfl rfl (.inl rfl) _ (fun a w s => resR1 Try.results22 s (.agg ag69 rfl (by exact .mk .here (by repeat constructor)))) ?_
        refine ⟨_, _, .nil, ?_, rfl⟩
        unfold keyed
        first | (exfalso; omega) | ((repeat (first | rw [if_pos (by omega)] | rw [if_neg (by omega)])); first | done | rfl)
      · skip
        try simp only [decide_eq_true_eq, decide_eq_false_iff_not, Bool.not_eq_true', Bool.not_eq_false'] at h41
        refine H.skip ?_
        refine HQ.next ?_
        refine H.seq ?_
        refine H.region ?_
        refine HO.v (V.loadA ag69 rfl (by exact .mk (.there .here) (by repeat constructor))) (ltn rfl) ?_
        refine HO.store sz69 rfl rfl rfl rfl rfl (by exact .mk (.there (.there .here)) (by repeat constructor)) ?_
        refine HO.nil ?_
        refine HQ.next ?_
        refine H.ret ?_
        refine HQ.end_ rfl rfl rfl rfl (.inl rfl) _ (fun a w s => resR1 Try.results22 s (.agg ag69 rfl (by exact .mk .here (by repeat constructor)))) ?_
        refine ⟨_, _, .nil, ?_, rfl⟩
        unfold keyed
        first | (exfalso; omega) | ((repeat (first | rw [if_pos (by omega)] | rw [if_neg (by omega)])); first | done | rfl)
    · skip
      try simp only [decide_eq_true_eq, decide_eq_false_iff_not, Bool.not_eq_true', Bool.not_eq_false'] at g35
      refine HO.gskip rfl rfl rfl rfl (ltn rfl) ?_
      refine HO.gskip rfl rfl rfl rfl (ltn rfl) ?_
      refine HO.gskip rfl rfl rfl rfl (ltn rfl) ?_
      refine HO.gskip rfl rfl rfl rfl (ltn rfl) ?_
      refine HO.gskip rfl rfl rfl rfl (ltn rfl) ?_
      refine HO.v (V.pickF rfl rfl) (ltn rfl) ?_
      refine HO.nil ?_
      refine HQ.keep (.cons (t := 4) rfl (.cons (t := 5) rfl (.cons (t := 41) rfl (.nil)))) ?_
      refine HQ.next ?_
      refine H.condF rfl rfl ?_
      refine H.skip ?_
      refine HQ.next ?_
      refine H.seq ?_
      refine H.region ?_
      refine HO.v (V.loadA ag69 rfl (by exact .mk (.there .here) (by repeat constructor))) (ltn rfl) ?_
      refine HO.store sz69 rfl rfl rfl rfl rfl (by exact .mk (.there (.there .here)) (by repeat constructor)) ?_
      refine HO.nil ?_
      refine HQ.next ?_
      refine H.ret ?_
      refine HQ.end_ rfl rfl rfl rfl (.inl rfl) _ (fun a w s => resR1 Try.results22 s (.agg ag69 rfl (by exact .mk .here (by repeat constructor)))) ?_
      refine ⟨_, _, .nil, ?_, rfl⟩
      unfold keyed
      first | (exfalso; omega) | ((repeat (first | rw [if_pos (by omega)] | rw [if_neg (by omega)])); first | done | rfl)
theorem asked_w (bT : Nat) (Ha : Option Addr) (hc b1 b2 : Nat) (next : Int) (held : List Int) (i : Ins) (hlen : held.length ≤ 1000000) (h1 : 1 ≤ i.op) (h8 : i.op ≤ 8) (ha : 0 ≤ i.a ∧ i.a < held.length) (hb : i.op = 3 ∨ i.op = 4 → 0 ≤ i.b ∧ i.b < held.length) :
    Tri Try.prog 18 #[.pointer (some ⟨bT, 0, none⟩), vIn i] [tabCell bT Ha held.length hc b1 b2 next, roE (encI .i64) Ha held] [] (fun u L' => u = vIn (asked held i) ∧ L' = []) := by
  have hal := asks_len i
  have hat := at_some ha.1 ha.2
  have hag : (1 < ((asks i).length : Int)) ↔ (i.op = 3 ∨ i.op = 4) := asks_more h1 h8
  refine Tri.of' 34 [.pointer (some ⟨bT, 0, none⟩), vIn i] [(0, .pointer (some ⟨bT, 0, none⟩)), (1, vIn i)] Try.func18 Try.ntmps18 rfl rfl rfl ?_
  intro w0
  refine H.seq ?_
  refine H.region ?_
  refine HO.box rfl rfl (ltn rfl) ?_
  intro b3
  refine HO.alloc ze50 rfl (ltn rfl) ?_
  intro b4
  refine HO.nil ?_
  refine HQ.next ?_
  refine H.seq ?_
  refine H.region ?_
  refine HO.v (V.loadA ag50 rfl (by exact .mk (.there .here) (by repeat constructor))) (ltn rfl) ?_
  refine HO.call ca23 (.cons rfl (.nil)) (asks_w i h1 h8) (by exact Rems.nil) (by exact Reads.nil) (ltn rfl) ?_
  rintro v7 L7 ⟨A7, c7, rfl, rfl⟩
  dsimp only [List.nil_append, List.cons_append]
  refine HO.v (V.len Try.underlying27 rfl) (ltn rfl) ?_
  refine HO.v (V.gtr rfl rfl) (ltn rfl) ?_
  refine HO.v (V.assign rfl) (ltn rfl) ?_
  refine HO.nil ?_
  refine HQ.keep (.cons (t := 0) rfl (.cons (t := 3) rfl (.cons (t := 4) rfl (.cons (t := 5) rfl (.nil))))) ?_
  refine HQ.next ?_
  refine H.seq ?_
  refine H.drawsP _ [11] [[], [], [1], [2], [3], [], [5], [4, 6], [7], [0, 8], [0, 1, 2, 3, 4, 5, 6, 7, 8, 9], [10, 9, 9, 0, 1, 2, 3, 4, 5, 6, 7, 8, 9]] (.take 0 (.take 1 (.take 2 (.take 3 (.take 4 (.take 5 (.take 6 (.take 7 (.take 8 (.one 9 (.take 10 (.one 11 .done)))))))))))) (Picks.sub (.cons (i := 0) rfl (.cons (i := 1) rfl (.cons (i := 2) rfl (.nil))))) (by kernel_rfl) (by kernel_rfl) (by kernel_rfl) (by kernel_rfl) (by kernel_rfl) ?_
  refine HP.take (i := 0) rfl rfl (ltn rfl) (gives_of want_none (V.move rfl)) (.cons (by exact (.head _)) (.cons (by exact (.tail _ (.head _))) (.cons (by exact (.tail _ (.tail _ (.head _)))) (Sub.nil)))) ?_
  refine HP.take (i := 1) rfl rfl (ltn rfl) (gives_of want_none (V.move rfl)) (.cons (by exact (.head _)) (.cons (by exact (.tail _ (.head _))) (.cons (by exact (.tail _ (.tail _ (.head _)))) (Sub.nil)))) ?_
  refine HP.take (i := 2) rfl rfl (ltn rfl) (gives_of want_none (V.nilCheck rfl)) (.cons (by exact (.head _)) (.cons (by exact (.tail _ (.head _))) (.cons (by exact (.tail _ (.tail _ (.head _)))) (Sub.nil)))) ?_
  refine HP.take (i := 3) rfl rfl (ltn rfl) (gives_of want_none (V.fieldAddr (fs := #[]) fa64_0 rfl)) (.cons (by exact (.head _)) (.cons (by exact (.tail _ (.head _))) (.cons (by exact (.tail _ (.tail _ (.head _)))) (Sub.nil)))) ?_
  refine HP.take (i := 4) rfl rfl (ltn rfl) (gives_of want_none (V.loadR sc27 rfl (by exact (.head _)) rfl)) (.cons (by exact (.head _)) (.cons (by exact (.tail _ (.head _))) (.cons (by exact (.tail _ (.tail _ (.head _)))) (Sub.nil)))) ?_
  refine HP.take (i := 5) rfl rfl (ltn rfl) (gives_of want_none (V.fieldAddr (fs := #[]) fa50_2 rfl)) (.cons (by exact (.head _)) (.cons (by exact (.tail _ (.head _))) (.cons (by exact (.tail _ (.tail _ (.head _)))) (Sub.nil)))) ?_
  refine HP.take (i := 6) rfl rfl (ltn rfl) (gives_of want_none (V.load sc3 rfl (by exact .mk (.there (.there .here)) rfl))) (.cons (by exact (.head _)) (.cons (by exact (.tail _ (.head _))) (.cons (by exact (.tail _ (.tail _ (.head _)))) (Sub.nil)))) ?_
  refine HP.take (i := 7) rfl rfl (ltn rfl) (gives_of want_none (V.indexAddr (N := (encI .i64)) (ys := _) Try.underlying27 sz3 rfl rfl (by omega) (by omega) (by exact Has.ro (.tail _ (.head _))))) (.cons (by exact (.head _)) (.cons (by exact (.tail _ (.head _))) (.cons (by exact (.tail _ (.tail _ (.head _)))) (Sub.nil)))) ?_
  refine HP.take (i := 8) rfl rfl (ltn rfl) (gives_of want_none (V.loadE (N := (encI .i64)) sc3 rfl (by exact .mk (Has.ro (.tail _ (.head _))) (hat) rfl))) (.cons (by exact (.head _)) (.cons (by exact (.tail _ (.head _))) (.cons (by exact (.tail _ (.tail _ (.head _)))) (Sub.nil)))) ?_
  refine HP.one (i := 9) rfl ?_
  intro fuel listed hno haf hrp hpk hfs
  refine HO.call ca19 (.cons rfl (.cons rfl (.nil))) (holder_w bT Ha hc b1 b2 next held _ hlen) (by exact Rems.nil) (by (refine Reads.ro (.head _) ?_); (refine Reads.ro (.tail _ (.head _)) ?_); exact Reads.nil) (ltn rfl) ?_
  rintro v19 L19 ⟨rfl, rfl⟩
  dsimp only [List.nil_append, List.cons_append]
  refine HO.nil ?_
  refine HQ.nxt hno haf hrp hpk hfs (.cons (by exact (.head _)) (.cons (by exact (.tail _ (.head _))) (.cons (by exact (.tail _ (.tail _ (.head _)))) (Sub.nil)))) ?_
  refine HP.take (i := 10) rfl rfl (ltn rfl) (gives_of want_none (V.fieldAddr (fs := #[]) fa50_2 rfl)) (.cons (by exact (.head _)) (.cons (by exact (.tail _ (.head _))) (.cons (by exact (.tail _ (.tail _ (.head _)))) (Sub.nil)))) ?_
  refine HP.one (i := 11) rfl ?_
  intro fuel listed hno haf hrp hpk hfs
  refine HO.store sz3 rfl rfl rfl rfl rfl (by exact .mk (.there (.there .here)) (by repeat constructor)) ?_
  refine HO.nil ?_
  refine HQ.nxtF (m := 11) hno haf hrp hpk hfs (by decide) (by kernel_rfl) rfl ?_
  refine HP.done ?_
  refine HQ.keep (.cons (t := 0) rfl (.cons (t := 3) rfl (.cons (t := 4) rfl (.cons (t := 5) rfl (.nil))))) ?_
  refine HQ.next ?_
  refine H.seq ?_
  refine H.seq ?_
  refine H.region ?_
  refine HO.v (V.move rfl) (ltn rfl) ?_
  refine HO.nil ?_
  refine HQ.next ?_
  refine H.condB rfl (fun h21 => ?_) (fun h21 => ?_)
  · skip
    try simp only [decide_eq_true_eq, decide_eq_false_iff_not, Bool.not_eq_true', Bool.not_eq_false'] at h21
    have hbb := hb (hag.1 h21)
    have hbt := at_some hbb.1 hbb.2
    refine H.drawsP _ [11] [[], [], [1], [2], [3], [], [5], [4, 6], [7], [0, 8], [0, 1, 2, 3, 4, 5, 6, 7, 8, 9], [10, 9, 9, 0, 1, 2, 3, 4, 5, 6, 7, 8, 9]] (.take 0 (.take 1 (.take 2 (.take 3 (.take 4 (.take 5 (.take 6 (.take 7 (.take 8 (.one 9 (.take 10 (.one 11 .done)))))))))))) (Picks.sub (.cons (i := 0) rfl (.cons (i := 1) rfl (.cons (i := 2) rfl (.nil))))) (by kernel_rfl) (by kernel_rfl) (by kernel_rfl) (by kernel_rfl) (by kernel_rfl) ?_
    refine HP.take (i := 0) rfl rfl (ltn rfl) (gives_of want_none (V.move rfl)) (.cons (by exact (.head _)) (.cons (by exact (.tail _ (.head _))) (.cons (by exact (.tail _ (.tail _ (.head _)))) (Sub.nil)))) ?_
    refine HP.take (i := 1) rfl rfl (ltn rfl) (gives_of want_none (V.move rfl)) (.cons (by exact (.head _)) (.cons (by exact (.tail _ (.head _))) (.cons (by exact (.tail _ (.tail _ (.head _)))) (Sub.nil)))) ?_
    refine HP.take (i := 2) rfl rfl (ltn rfl) (gives_of want_none (V.nilCheck rfl)) (.cons (by exact (.head _)) (.cons (by exact (.tail _ (.head _))) (.cons (by exact (.tail _ (.tail _ (.head _)))) (Sub.nil)))) ?_
    refine HP.take (i := 3) rfl rfl (ltn rfl) (gives_of want_none (V.fieldAddr (fs := #[]) fa64_0 rfl)) (.cons (by exact (.head _)) (.cons (by exact (.tail _ (.head _))) (.cons (by exact (.tail _ (.tail _ (.head _)))) (Sub.nil)))) ?_
    refine HP.take (i := 4) rfl rfl (ltn rfl) (gives_of want_none (V.loadR sc27 rfl (by exact (.head _)) rfl)) (.cons (by exact (.head _)) (.cons (by exact (.tail _ (.head _))) (.cons (by exact (.tail _ (.tail _ (.head _)))) (Sub.nil)))) ?_
    refine HP.take (i := 5) rfl rfl (ltn rfl) (gives_of want_none (V.fieldAddr (fs := #[]) fa50_3 rfl)) (.cons (by exact (.head _)) (.cons (by exact (.tail _ (.head _))) (.cons (by exact (.tail _ (.tail _ (.head _)))) (Sub.nil)))) ?_
    refine HP.take (i := 6) rfl rfl (ltn rfl) (gives_of want_none (V.load sc3 rfl (by exact .mk .here rfl))) (.cons (by exact (.head _)) (.cons (by exact (.tail _ (.head _))) (.cons (by exact (.tail _ (.tail _ (.head _)))) (Sub.nil)))) ?_
    refine HP.take (i := 7) rfl rfl (ltn rfl) (gives_of want_none (V.indexAddr (N := (encI .i64)) (ys := _) Try.underlying27 sz3 rfl rfl (by omega) (by omega) (by exact Has.ro (.tail _ (.head _))))) (.cons (by exact (.head _)) (.cons (by exact (.tail _ (.head _))) (.cons (by exact (.tail _ (.tail _ (.head _)))) (Sub.nil)))) ?_
    refine HP.take (i := 8) rfl rfl (ltn rfl) (gives_of want_none (V.loadE (N := (encI .i64)) sc3 rfl (by exact .mk (Has.ro (.tail _ (.head _))) (hbt) rfl))) (.cons (by exact (.head _)) (.cons (by exact (.tail _ (.head _))) (.cons (by exact (.tail _ (.tail _ (.head _)))) (Sub.nil)))) ?_
    refine HP.one (i := 9) rfl ?_
    intro fuel listed hno haf hrp hpk hfs
    refine HO.call ca19 (.cons rfl (.cons rfl (.nil))) (holder_w bT Ha hc b1 b2 next held _ hlen) (by exact Rems.nil) (by (refine Reads.ro (.head _) ?_); (refine Reads.ro (.tail _ (.head _)) ?_); exact Reads.nil) (ltn rfl) ?_
    rintro v31 L31 ⟨rfl, rfl⟩
    dsimp only [List.nil_append, List.cons_append]
    refine HO.nil ?_
    refine HQ.nxt hno haf hrp hpk hfs (.cons (by exact (.head _)) (.cons (by exact (.tail _ (.head _))) (.cons (by exact (.tail _ (.tail _ (.head _)))) (Sub.nil)))) ?_
    refine HP.take (i := 10) rfl rfl (ltn rfl) (gives_of want_none (V.fieldAddr (fs := #[]) fa50_3 rfl)) (.cons (by exact (.head _)) (.cons (by exact (.tail _ (.head _))) (.cons (by exact (.tail _ (.tail _ (.head _)))) (Sub.nil)))) ?_
    refine HP.one (i := 11) rfl ?_
    intro fuel listed hno haf hrp hpk hfs
    refine HO.store sz3 rfl rfl rfl rfl rfl (by exact .mk .here (by repeat constructor)) ?_
    refine HO.nil ?_
    refine HQ.nxtF (m := 11) hno haf hrp hpk hfs (by decide) (by kernel_rfl) rfl ?_
    refine HP.done ?_
    refine HQ.keep (.cons (t := 3) rfl (.cons (t := 4) rfl (.nil))) ?_
    refine HQ.next ?_
    refine H.seq ?_
    refine H.region ?_
    refine HO.v (V.loadA ag50 rfl (by exact .mk .here (by repeat constructor))) (ltn rfl) ?_
    refine HO.store sz50 rfl rfl rfl rfl rfl (by exact .mk (.there (.there .here)) (by repeat constructor)) ?_
    refine HO.nil ?_
    refine HQ.next ?_
    refine H.ret ?_
    refine HQ.end_ rfl rfl rfl rfl (.inl rfl) _ (fun a w s => resR1 Try.results18 s (.agg ag50 rfl (by exact .mk .here (by repeat constructor)))) ?_
    refine ⟨_, _, .nil, ?_, rfl⟩
    unfold asked
    first | (exfalso; omega) | ((repeat (first | rw [if_pos (by omega)] | rw [if_neg (by omega)])); first | done | rfl)
  · skip
    try simp only [decide_eq_true_eq, decide_eq_false_iff_not, Bool.not_eq_true', Bool.not_eq_false'] at h21
    refine H.skip ?_
    refine HQ.next ?_
    refine H.seq ?_
    refine H.region ?_
    refine HO.v (V.loadA ag50 rfl (by exact .mk .here (by repeat constructor))) (ltn rfl) ?_
    refine HO.store sz50 rfl rfl rfl rfl rfl (by exact .mk (.there (.there .here)) (by repeat constructor)) ?_
    refine HO.nil ?_
    refine HQ.next ?_
    refine H.ret ?_
    refine HQ.end_ rfl rfl rfl rfl (.inl rfl) _ (fun a w s => resR1 Try.results18 s (.agg ag50 rfl (by exact .mk .here (by repeat constructor)))) ?_
    refine ⟨_, _, .nil, ?_, rfl⟩
    unfold asked
    first | (exfalso; omega) | ((repeat (first | rw [if_pos (by omega)] | rw [if_neg (by omega)])); first | done | rfl)

end Go.Proofs.Ytcmlghemanjaaaa
