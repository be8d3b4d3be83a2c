/- Walks of slices.Clone at ints and of fold.Pass. Conditions: as the theorems say. -/
import Derived.Test.YtmkoadgphhkfgaaDoorSlG
import Derived.Test.YtmkoadgphhkfgaaDoorFacts
import Derived.Test.YtmkoadgphhkfgaaDoorFoldWalks1
set_option linter.unusedVariables false
set_option linter.unusedSimpArgs false
set_option maxRecDepth 10000
namespace Go.Proofs.YtmkoadgphhkfgaaDoor
open Go Go.RowKit Sl Pg

theorem cloneI_w (ys : List Int) (A : Option Addr) (c : Nat) (hb : ys.length ≤ 1000000) :
    Tri Tryd.prog 36 #[.slice A ys.length c] [roE (encI .i64) A ys] [] (fun v L' => ∃ A' c', v = .slice A' ys.length c' ∧ L' = [rowE (encI .i64) 3 A' c' ys]) := by
  refine Tri.roNil (N := encI .i64) (A := A) (ys := ys) (.head _) fun hA => ?_
  refine Tri.of' 8 [.slice A ys.length c] [(0, .slice A ys.length c)] Tryd.func36 Tryd.ntmps36 rfl rfl rfl ?_
  intro w0
  refine H.seq ?_
  refine H.region ?_
  refine HO.v (V.assign rfl) (ltn rfl) ?_
  refine HO.nil ?_
  refine HQ.next ?_
  refine H.seq ?_
  refine H.seq ?_
  refine H.region ?_
  refine HO.v (V.move rfl) (ltn rfl) ?_
  refine HO.v (V.eqlNil Tryd.underlying30 rfl rfl) (ltn rfl) ?_
  refine HO.nil ?_
  refine HQ.next ?_
  refine H.condB rfl (fun h4 => ?_) (fun h4 => ?_)
  · skip
    try simp only [decide_eq_true_eq, decide_eq_false_iff_not, Bool.not_eq_true', Bool.not_eq_false'] at h4
    have hn : A = none := by simpa using h4
    obtain rfl := hA hn
    refine H.seq ?_
    refine H.region ?_
    refine HO.v (V.assign rfl) (ltn rfl) ?_
    refine HO.nil ?_
    refine HQ.next ?_
    refine H.ret ?_
    refine HQ.then_ret ?_
    refine HQ.free (rowE (encI .i64) 3 none 0 ([] : List Int)) rfl (fun w => OwnRow.nil w 3 1) ?_
    refine HQ.end_ rfl rfl rfl rfl (.inl rfl) _ (fun a w s => res1 Tryd.results36 s rfl) ?_
    exact ⟨_, _, .cons .here .nil, _, _, rfl, rfl⟩
  · skip
    try simp only [decide_eq_true_eq, decide_eq_false_iff_not, Bool.not_eq_true', Bool.not_eq_false'] at h4
    refine H.skip ?_
    refine HQ.next ?_
    refine H.seq ?_
    refine H.region ?_
    refine HO.buildRow (encI .i64) (([] : List Int)) Tryd.underlying30 ze3 (.nil) (.nil) (Nat.le_of_ble_eq_true rfl) (Nat.le_of_ble_eq_true rfl) (ltn rfl) ?_
    intro b5
    refine HO.v (V.move rfl) (ltn rfl) ?_
    refine HO.append (N := (encI .i64)) (zs := ys) Tryd.underlying30 ze3 rfl rfl rfl (by exact .here) (by exact Has.ro (.head _)) (by first | omega | (simp; omega)) (by decide) (ltn rfl) ?_
    intro A7 c7
    refine HO.v (V.assign rfl) (ltn rfl) ?_
    refine HO.nil ?_
    refine HQ.keep (.cons (t := 2) rfl (.nil)) ?_
    refine HQ.next ?_
    refine H.ret ?_
    refine HQ.end_ rfl rfl rfl rfl (.inl rfl) _ (fun a w s => res1 Tryd.results36 s rfl) ?_
    first | exact ⟨_, _, .cons .here .nil, _, _, rfl, rfl⟩ | (refine HQ.id ?_)
theorem foldPass_w (p : Prg) (A : Option Addr) (n : Nat) (B : Option Addr) (m : Nat) (hv : Right p) :
    Tri Tryd.prog 15 #[vPg p A n B m] [tabCh, roE encIn A p.code, roE (encI .i64) B p.outs] [] (fun v L' => ∃ C k D j, v = .tuple #[vPg ⟨p.ins, p.regs, passF p.code, p.outs⟩ C k D j, .int .i64 0] ∧ L' = [rowE encIn 26 C k (passF p.code), rowE (encI .i64) 3 D j p.outs]) := by
  have hm128 : ∀ i ∈ p.code, May i 128 := fun i hi => (hv.may i hi).mono hv.regs
  refine Tri.of' 76 [vPg p A n B m] [(0, vPg p A n B m)] Tryd.func15 Tryd.ntmps15 rfl rfl rfl ?_
  intro w0
  refine H.seq ?_
  refine H.region ?_
  refine HO.box rfl rfl (ltn rfl) ?_
  intro b1
  refine HO.alloc ze38 rfl (ltn rfl) ?_
  intro b2
  refine HO.v (V.assign rfl) (ltn rfl) ?_
  refine HO.nil ?_
  refine HQ.next ?_
  refine H.scope rfl ?_
  refine H.seq ?_
  refine H.region ?_
  refine HO.v (V.loadA ag38 rfl (by exact .mk (.there .here) (by repeat constructor))) (ltn rfl) ?_
  refine HO.call ca35 (.cons rfl (.nil)) (check_w p A n B m hv) (by exact Rems.nil) (by (refine Reads.ro (.tail _ (.head _)) ?_); (refine Reads.ro (.tail _ (.tail _ (.head _))) ?_); exact Reads.nil) (ltn rfl) ?_
  rintro v14 L14 ⟨rfl, rfl⟩
  dsimp only [List.nil_append, List.cons_append]
  refine HO.v (V.move rfl) (ltn rfl) ?_
  refine HO.v (V.extract rfl rfl) (ltn rfl) ?_
  refine HO.v (V.extract rfl rfl) (ltn rfl) ?_
  refine HO.v (V.assign rfl) (ltn rfl) ?_
  refine HO.v (V.assign rfl) (ltn rfl) ?_
  refine HO.nil ?_
  refine HQ.keep (.cons (t := 1) rfl (.cons (t := 2) rfl (.cons (t := 3) rfl (.cons (t := 5) rfl (.nil))))) ?_
  refine HQ.next ?_
  refine H.seq ?_
  refine H.seq ?_
  refine H.region ?_
  refine HO.v (V.move rfl) (ltn rfl) ?_
  refine HO.v (V.neqI rfl rfl) (ltn rfl) ?_
  refine HO.nil ?_
  refine HQ.next ?_
  refine H.condF rfl (by rfl) ?_
  refine H.skip ?_
  refine HQ.next ?_
  refine H.seq ?_
  refine H.region ?_
  refine HO.v (V.assign rfl) (ltn rfl) ?_
  refine HO.nil ?_
  refine HQ.keep (.cons (t := 1) rfl (.cons (t := 2) rfl (.cons (t := 3) rfl (.cons (t := 6) rfl (.nil))))) ?_
  refine HQ.next ?_
  refine H.seq ?_
  refine H.label ?_
  refine HQ.next ?_
  refine H.seq ?_
  refine H.seq ?_
  refine H.region ?_
  refine HO.v (V.fieldAddr (fs := #[]) fa38_2 rfl) (ltn rfl) ?_
  refine HO.v (V.load sc24 rfl (by exact .mk (.there .here) rfl)) (ltn rfl) ?_
  refine HO.v (V.len Tryd.underlying24 rfl) (ltn rfl) ?_
  refine HO.v (V.move rfl) (ltn rfl) ?_
  refine HO.nil ?_
  refine HQ.keep (.cons (t := 1) rfl (.cons (t := 2) rfl (.cons (t := 3) rfl (.cons (t := 6) rfl (.cons (t := 22) rfl (.cons (t := 23) rfl (.cons (t := 24) rfl (.nil)))))))) ?_
  refine HQ.next ?_
  refine H.block ?_
  refine H.loop (σ := Nat × List Ins × Option Addr × Nat) (fun s => p.code.length - s.1) (fun s => [(1, .pointer (some ⟨b1, 0, none⟩)), (2, .pointer (some ⟨b2, 0, none⟩)), (6, .slice s.2.2.1 s.2.1.length s.2.2.2), (22, .slice A p.code.length n), (23, .int .i64 ((p.code.length : Nat) : Int)), (24, .int .i64 ((s.1 : Nat) : Int))]) (fun s => [rowE encIn 26 s.2.2.1 s.2.2.2 s.2.1, cellsCh b1 38 [.int .i64 p.ins, .int .i64 p.regs, .slice A p.code.length n, .slice B p.outs.length m], cellsCh b2 38 [.int .i64 0, .int .i64 0, .slice none 0 0, .slice none 0 0]]) (fun s => s.1 ≤ p.code.length ∧ s.2.1 = passF (p.code.take s.1)) ((0, [], none, 0)) ?_ ?_ ?_
  · exact ⟨Nat.zero_le _, rfl⟩
  · skip
    refine HQ.free (rowE encIn 26 none 0 ([] : List Ins)) rfl (fun w => OwnRow.nil w 26 5) ?_
    exact HQ.fits (.cons rfl (.cons rfl (.cons rfl (.cons rfl (.cons rfl (.cons rfl (.nil))))))) (by exact Rems.cons (by exact .here) (Rems.cons (by exact (.there .here)) (Rems.cons (by exact .here) (Rems.nil))))
  intro s hI
  obtain ⟨k, l, Al, cl⟩ := s
  obtain ⟨hk, hl⟩ := hI
  dsimp only at hk hl ⊢
  have hlk : l.length ≤ k := by rw [hl]; have := passF_length (p.code.take k); simp at this; omega
  have hml0 : ∀ x ∈ l, May x 128 := by rw [hl]; exact passF_may fun x hx => hm128 x (List.mem_of_mem_take hx)
  have hcl := hv.code
  refine H.seq ?_
  refine H.region ?_
  refine HO.v (V.lss rfl rfl) (ltn rfl) ?_
  refine HO.nil ?_
  refine HQ.next ?_
  refine H.seq ?_
  refine H.condB rfl (fun h25 => ?_) (fun h25 => ?_)
  · skip
    try simp only [decide_eq_true_eq, decide_eq_false_iff_not, Bool.not_eq_true', Bool.not_eq_false'] at h25
    obtain ⟨i, hi⟩ : ∃ i, p.code[k]? = some i := ⟨_, List.getElem?_eq_getElem (by omega)⟩
    have hmi := hm128 i (List.mem_of_getElem? hi)
    refine H.skip ?_
    refine HQ.next ?_
    refine H.seq ?_
    refine H.block ?_
    refine H.seq ?_
    refine H.region ?_
    refine HO.v (V.indexAddr (N := encIn) (ys := _) Tryd.underlying24 sz26 rfl rfl (by omega) (by omega) (by exact Has.ro (.tail _ (.head _)))) (ltn rfl) ?_
    refine HO.v (V.loadEA (N := encIn) ag26 rfl (by exact .mk (Has.ro (.tail _ (.head _))) (hi) rfl)) (ltn rfl) ?_
    refine HO.alloc ze26 rfl (ltn rfl) ?_
    intro b8
    refine HO.store sz26 rfl rfl rfl rfl rfl (by exact .mk .here (by repeat constructor)) ?_
    refine HO.nil ?_
    refine HQ.next ?_
    refine H.scope rfl ?_
    refine H.seq ?_
    refine H.region ?_
    refine HO.v (V.loadA ag26 rfl (by exact .mk .here (by repeat constructor))) (ltn rfl) ?_
    refine HO.call ca31 (.cons rfl (.nil)) (plain_w i (cok_bd (op := i.op) hmi.c)) (by exact Rems.nil) (by (refine Reads.ro (.head _) ?_); exact Reads.nil) (ltn rfl) ?_
    rintro v29 L29 ⟨rfl, rfl⟩
    dsimp only [List.nil_append, List.cons_append]
    refine HO.alloc ze26 rfl (ltn rfl) ?_
    intro b9
    refine HO.store sz26 rfl rfl rfl rfl rfl (by exact .mk .here (by repeat constructor)) ?_
    refine HO.nil ?_
    refine HQ.next ?_
    refine H.seq ?_
    refine H.label ?_
    refine HQ.next ?_
    refine H.seq ?_
    refine H.block ?_
    refine H.loop (σ := List Ins × Ins × Option Addr × Nat) (fun s => s.1.length) (fun s => [(1, .pointer (some ⟨b1, 0, none⟩)), (2, .pointer (some ⟨b2, 0, none⟩)), (6, .slice s.2.2.1 s.1.length s.2.2.2), (9, .pointer (some ⟨b9, 0, none⟩)), (22, .slice A p.code.length n), (23, .int .i64 ((p.code.length : Nat) : Int)), (24, .int .i64 ((k : Nat) : Int))]) (fun s => [rowE encIn 26 s.2.2.1 s.2.2.2 s.1, cellsCh b9 26 [.int .i64 s.2.1.op, .int .i64 s.2.1.to, .int .i64 s.2.1.a, .int .i64 s.2.1.b, .int .i64 s.2.1.c], cellsCh b1 38 [.int .i64 p.ins, .int .i64 p.regs, .slice A p.code.length n, .slice B p.outs.length m], cellsCh b2 38 [.int .i64 0, .int .i64 0, .slice none 0 0, .slice none 0 0]]) (fun s => meltF s.1 s.2.1 = meltF l (plain i) ∧ s.1.length ≤ k ∧ (∀ x ∈ s.1, May x 128) ∧ May s.2.1 128) ((l, plain i, Al, cl)) ?_ ?_ ?_
    · exact ⟨rfl, hlk, hml0, plain_may hmi⟩
    · skip
      exact HQ.fits (.cons rfl (.cons rfl (.cons rfl (.cons rfl (.cons rfl (.cons rfl (.cons rfl (.nil)))))))) (by exact Rems.cons (by exact (.there (.there .here))) (Rems.cons (by exact .here) (Rems.cons (by exact (.there .here)) (Rems.cons (by exact (.there .here)) (Rems.nil)))))
    intro s hI
    obtain ⟨l2, b2i, A2, c2⟩ := s
    obtain ⟨ht, hlen, hml, hmb⟩ := hI
    dsimp only at ht hlen hml hmb ⊢
    refine H.block ?_
    refine H.seq ?_
    refine H.seq ?_
    refine H.region ?_
    refine HO.v (V.fieldAddr (fs := #[]) fa26_0 rfl) (ltn rfl) ?_
    refine HO.v (V.load sc3 rfl (by exact .mk (.there .here) rfl)) (ltn rfl) ?_
    refine HO.v (V.eqlI rfl rfl) (ltn rfl) ?_
    refine HO.v (V.move rfl) (ltn rfl) ?_
    refine HO.part (t := 33) rfl (fun g33 => ?_) (fun g33 => ?_)
    · skip
      try simp only [decide_eq_true_eq, decide_eq_false_iff_not, Bool.not_eq_true', Bool.not_eq_false'] at g33
      refine HO.gdo rfl rfl rfl rfl ?_
      refine HO.v (V.fieldAddr (fs := #[]) fa26_1 rfl) (ltn rfl) ?_
      refine HO.gdo rfl rfl rfl rfl ?_
      refine HO.v (V.load sc3 rfl (by exact .mk (.there .here) rfl)) (ltn rfl) ?_
      refine HO.gdo rfl rfl rfl rfl ?_
      refine HO.v (V.fieldAddr (fs := #[]) fa26_2 rfl) (ltn rfl) ?_
      refine HO.gdo rfl rfl rfl rfl ?_
      refine HO.v (V.load sc3 rfl (by exact .mk (.there .here) rfl)) (ltn rfl) ?_
      refine HO.gdo rfl rfl rfl rfl ?_
      refine HO.v (V.eqlI rfl rfl) (ltn rfl) ?_
      refine HO.v (V.pickT rfl rfl) (ltn rfl) ?_
      refine HO.nil ?_
      refine HQ.next ?_
      refine H.condB rfl (fun h39 => ?_) (fun h39 => ?_)
      · skip
        try simp only [decide_eq_true_eq, decide_eq_false_iff_not, Bool.not_eq_true', Bool.not_eq_false'] at h39
        refine H.exit ?_
        refine HQ.then_exit ?_
        refine HQ.exit_miss (by decide) ?_
        refine HQ.then_exit ?_
        refine HQ.exit_miss (by decide) ?_
        refine HQ.then_exit ?_
        refine HQ.scope_exit ?_
        refine HQ.exit_hit ?_
        refine HQ.next ?_
        refine H.region ?_
        refine HO.v (V.add rfl rfl (by omega)) (ltn rfl) ?_
        refine HO.v (V.move rfl) (ltn rfl) ?_
        refine HO.nil ?_
        refine HQ.round ((k + 1, l2, A2, c2)) ?_ ?_ ?_
        · exact ⟨by omega, by rw [take_snoc hi, passF_snoc, ← hl, ← ht]; exact (meltF_self (by simp [selfm, g33, h39])).symm⟩
        · dsimp only; omega
        · skip
          exact HQ.fits (.cons rfl (.cons rfl (.cons rfl (.cons rfl (.cons rfl (.cons rfl (.nil))))))) (by exact Rems.cons (by exact .here) (Rems.cons (by exact (.there .here)) (Rems.cons (by exact (.there .here)) (Rems.nil))))
      · skip
        try simp only [decide_eq_true_eq, decide_eq_false_iff_not, Bool.not_eq_true', Bool.not_eq_false'] at h39
        refine H.skip ?_
        refine HQ.next ?_
        refine H.seq ?_
        refine H.seq ?_
        refine H.region ?_
        have hns : ¬ selfm b2i = true := by simp [selfm]; first | exact fun _ => h39 | (intro e; exact absurd e g33)
        refine HO.v (V.move rfl) (ltn rfl) ?_
        refine HO.v (V.len Tryd.underlying24 rfl) (ltn rfl) ?_
        refine HO.v (V.eqlI rfl rfl) (ltn rfl) ?_
        refine HO.nil ?_
        refine HQ.next ?_
        refine H.condB rfl (fun h42 => ?_) (fun h42 => ?_)
        · skip
          try simp only [decide_eq_true_eq, decide_eq_false_iff_not, Bool.not_eq_true', Bool.not_eq_false'] at h42
          obtain rfl : l2 = [] := List.eq_nil_of_length_eq_zero (by omega)
          refine H.exit ?_
          refine HQ.then_exit ?_
          refine HQ.exit_miss (by decide) ?_
          refine HQ.then_exit ?_
          refine HQ.exit_hit ?_
          refine HQ.next ?_
          refine H.region ?_
          refine HO.v (V.move rfl) (ltn rfl) ?_
          refine HO.v (V.loadA ag26 rfl (by exact .mk (.there .here) (by repeat constructor))) (ltn rfl) ?_
          refine HO.buildRow encIn ([b2i]) Tryd.underlying24 ze26 (.cons rfl (.nil)) (.cons rfl (.nil)) (Nat.le_of_ble_eq_true rfl) (Nat.le_of_ble_eq_true rfl) (ltn rfl) ?_
          intro b64
          refine HO.append (N := encIn) (zs := [b2i]) Tryd.underlying24 ze26 rfl rfl rfl (by exact (.there .here)) (by exact Has.own .here) (by first | omega | (simp; done) | (simp; omega) | (simp at hlen ⊢; omega)) (by decide) (ltn rfl) ?_
          intro A65 c65
          refine HO.v (V.assign rfl) (ltn rfl) ?_
          refine HO.nil ?_
          refine HQ.scope_normal ?_
          refine HQ.block_normal ?_
          refine HQ.next ?_
          refine H.region ?_
          refine HO.v (V.add rfl rfl (by omega)) (ltn rfl) ?_
          refine HO.v (V.move rfl) (ltn rfl) ?_
          refine HO.nil ?_
          refine HQ.round ((k + 1, [] ++ [b2i], A65, c65)) ?_ ?_ ?_
          · exact ⟨by omega, by rw [take_snoc hi, passF_snoc, ← hl, ← ht]; exact (meltF_nil hns).symm⟩
          · dsimp only; omega
          · skip
            exact HQ.fits (.cons rfl (.cons rfl (.cons rfl (.cons rfl (.cons rfl (.cons rfl (.nil))))))) (by exact Rems.cons (by exact .here) (Rems.cons (by exact (.there (.there .here))) (Rems.cons (by exact (.there (.there .here))) (Rems.nil))))
        · skip
          try simp only [decide_eq_true_eq, decide_eq_false_iff_not, Bool.not_eq_true', Bool.not_eq_false'] at h42
          obtain ⟨l3, x, rfl⟩ : ∃ l3 x, l2 = l3 ++ [x] := exists_concat (by intro e; subst e; simp at h42)
          have hx := last_at l3 x
          refine H.skip ?_
          refine HQ.next ?_
          refine H.seq ?_
          refine H.draws (.cons (i := 0) rfl (.cons (i := 1) rfl (.cons (i := 2) rfl (.cons (i := 3) rfl (.nil))))) (by kernel_rfl) ?_
          refine HA.take (i := 0) rfl rfl (ltn rfl) (by kernel_rfl) (by kernel_rfl) (by kernel_rfl) (gives_of want_none (V.move rfl)) (.cons (by exact (.head _)) (.cons (by exact (.tail _ (.head _))) (.cons (by exact (.tail _ (.tail _ (.head _)))) (.cons (by exact (.tail _ (.tail _ (.tail _ (.head _))))) (Sub.nil))))) rfl ?_
          refine HA.take (i := 1) rfl rfl (ltn rfl) (by kernel_rfl) (by kernel_rfl) (by kernel_rfl) (gives_of want_none (V.move rfl)) (.cons (by exact (.head _)) (.cons (by exact (.tail _ (.head _))) (.cons (by exact (.tail _ (.tail _ (.head _)))) (.cons (by exact (.tail _ (.tail _ (.tail _ (.head _))))) (Sub.nil))))) rfl ?_
          refine HA.take (i := 2) rfl rfl (ltn rfl) (by kernel_rfl) (by kernel_rfl) (by kernel_rfl) (gives_of want_none (V.len Tryd.underlying24 rfl)) (.cons (by exact (.head _)) (.cons (by exact (.tail _ (.head _))) (.cons (by exact (.tail _ (.tail _ (.head _)))) (.cons (by exact (.tail _ (.tail _ (.tail _ (.head _))))) (Sub.nil))))) rfl ?_
          refine HA.take (i := 3) rfl rfl (ltn rfl) (by kernel_rfl) (by kernel_rfl) (by kernel_rfl) (gives_of want_none (V.sub rfl rfl (by first | omega | (simp; done) | (simp; omega) | (simp at hlen ⊢; omega)))) (.cons (by exact (.head _)) (.cons (by exact (.tail _ (.head _))) (.cons (by exact (.tail _ (.tail _ (.head _)))) (.cons (by exact (.tail _ (.tail _ (.tail _ (.head _))))) (Sub.nil))))) rfl ?_
          refine HA.take (i := 4) rfl rfl (ltn rfl) (by kernel_rfl) (by kernel_rfl) (by kernel_rfl) (gives_of want_none (V.indexAddr (N := encIn) (ys := _) Tryd.underlying24 sz26 rfl rfl (by first | omega | (simp; done) | (simp; omega) | (simp at hlen ⊢; omega)) (by first | omega | (simp; done) | (simp; omega) | (simp at hlen ⊢; omega)) (by exact Has.own .here))) (.cons (by exact (.head _)) (.cons (by exact (.tail _ (.head _))) (.cons (by exact (.tail _ (.tail _ (.head _)))) (.cons (by exact (.tail _ (.tail _ (.tail _ (.head _))))) (Sub.nil))))) rfl ?_
          refine HA.take (i := 5) rfl rfl (ltn rfl) (by kernel_rfl) (by kernel_rfl) (by kernel_rfl) (gives_of want_none (V.loadEA (N := encIn) ag26 rfl (by exact .mk (Has.own .here) (hx) rfl))) (.cons (by exact (.head _)) (.cons (by exact (.tail _ (.head _))) (.cons (by exact (.tail _ (.tail _ (.head _)))) (.cons (by exact (.tail _ (.tail _ (.tail _ (.head _))))) (Sub.nil))))) rfl ?_
          refine HA.take (i := 6) rfl rfl (ltn rfl) (by kernel_rfl) (by kernel_rfl) (by kernel_rfl) (gives_of want_none (V.loadA ag26 rfl (by exact .mk (.there .here) (by repeat constructor)))) (.cons (by exact (.head _)) (.cons (by exact (.tail _ (.head _))) (.cons (by exact (.tail _ (.tail _ (.head _)))) (.cons (by exact (.tail _ (.tail _ (.tail _ (.head _))))) (Sub.nil))))) rfl ?_
          refine HA.two (i := 7) (j := 11) rfl rfl (by kernel_rfl) ?_ ?_
          · skip
            refine HO.call ca32 (.cons rfl (.cons rfl (.nil))) (melt_w x b2i (hml x (by simp)) hmb) (by exact Rems.nil) (by (refine Reads.ro (.head _) ?_); exact Reads.nil) (ltn rfl) ?_
            rintro v51 L51 ⟨rfl, rfl⟩
            dsimp only [List.nil_append, List.cons_append]
            refine HO.nil ?_
            refine HQ.again (.cons (by exact (.head _)) (.cons (by exact (.tail _ (.head _))) (.cons (by exact (.tail _ (.tail _ (.head _)))) (.cons (by exact (.tail _ (.tail _ (.tail _ (.head _))))) (Sub.nil))))) rfl ?_
            refine HA.take (i := 8) rfl rfl (ltn rfl) (by kernel_rfl) (by kernel_rfl) (by kernel_rfl) (gives_of want_none (V.move rfl)) (.cons (by exact (.head _)) (.cons (by exact (.tail _ (.head _))) (.cons (by exact (.tail _ (.tail _ (.head _)))) (.cons (by exact (.tail _ (.tail _ (.tail _ (.head _))))) (Sub.nil))))) rfl ?_
            refine HA.take (i := 9) rfl rfl (ltn rfl) (by kernel_rfl) (by kernel_rfl) (by kernel_rfl) (gives_of want_none (V.extract rfl rfl)) (.cons (by exact (.head _)) (.cons (by exact (.tail _ (.head _))) (.cons (by exact (.tail _ (.tail _ (.head _)))) (.cons (by exact (.tail _ (.tail _ (.tail _ (.head _))))) (Sub.nil))))) rfl ?_
            refine HA.take (i := 10) rfl rfl (ltn rfl) (by kernel_rfl) (by kernel_rfl) (by kernel_rfl) (gives_of want_none (V.extract rfl rfl)) (.cons (by exact (.head _)) (.cons (by exact (.tail _ (.head _))) (.cons (by exact (.tail _ (.tail _ (.head _)))) (.cons (by exact (.tail _ (.tail _ (.tail _ (.head _))))) (Sub.nil))))) rfl ?_
            refine HA.one (i := 11) rfl (by kernel_rfl) ?_
            refine HO.alloc ze26 rfl (ltn rfl) ?_
            intro b10
            refine HO.nil ?_
            refine HQ.again (.cons (by exact (.tail _ (.head _))) (.cons (by exact (.tail _ (.tail _ (.head _)))) (.cons (by exact (.tail _ (.tail _ (.tail _ (.head _))))) (.cons (by exact (.tail _ (.tail _ (.tail _ (.tail _ (.head _)))))) (Sub.nil))))) rfl ?_
            refine HA.one (i := 12) rfl (by kernel_rfl) ?_
            refine HO.store sz26 rfl rfl rfl rfl rfl (by exact .mk .here (by repeat constructor)) ?_
            refine HO.nil ?_
            refine HQ.again (.cons (by exact (.tail _ (.head _))) (.cons (by exact (.tail _ (.tail _ (.head _)))) (.cons (by exact (.tail _ (.tail _ (.tail _ (.head _))))) (.cons (by exact (.tail _ (.tail _ (.tail _ (.tail _ (.head _)))))) (Sub.nil))))) rfl ?_
            refine HA.take (i := 13) rfl rfl (ltn rfl) (by kernel_rfl) (by kernel_rfl) (by kernel_rfl) (gives_of want_none (V.assign rfl)) (.cons (by exact (.tail _ (.head _))) (.cons (by exact (.tail _ (.tail _ (.head _)))) (.cons (by exact (.tail _ (.tail _ (.tail _ (.head _))))) (.cons (by exact (.tail _ (.tail _ (.tail _ (.tail _ (.head _)))))) (Sub.nil))))) rfl ?_
            refine HA.done (by kernel_rfl) ?_
            refine HQ.next ?_
            refine H.seq ?_
            refine H.seq ?_
            refine H.region ?_
            refine HO.v (V.move rfl) (ltn rfl) ?_
            refine HO.v (V.not rfl) (ltn rfl) ?_
            refine HO.nil ?_
            refine HQ.next ?_
            refine H.condB rfl (fun h55 => ?_) (fun h55 => ?_)
            · skip
              try simp only [decide_eq_true_eq, decide_eq_false_iff_not, Bool.not_eq_true', Bool.not_eq_false'] at h55
              refine H.exit ?_
              refine HQ.then_exit ?_
              refine HQ.exit_miss (by decide) ?_
              refine HQ.then_exit ?_
              refine HQ.exit_hit ?_
              refine HQ.next ?_
              refine H.region ?_
              refine HO.v (V.move rfl) (ltn rfl) ?_
              refine HO.v (V.loadA ag26 rfl (by exact .mk (.there (.there .here)) (by repeat constructor))) (ltn rfl) ?_
              refine HO.buildRow encIn ([b2i]) Tryd.underlying24 ze26 (.cons rfl (.nil)) (.cons rfl (.nil)) (Nat.le_of_ble_eq_true rfl) (Nat.le_of_ble_eq_true rfl) (ltn rfl) ?_
              intro b64
              refine HO.append (N := encIn) (zs := [b2i]) Tryd.underlying24 ze26 rfl rfl rfl (by exact (.there (.there .here))) (by exact Has.own .here) (by first | omega | (simp; done) | (simp; omega) | (simp at hlen ⊢; omega)) (by decide) (ltn rfl) ?_
              intro A65 c65
              refine HO.v (V.assign rfl) (ltn rfl) ?_
              refine HO.nil ?_
              refine HQ.scope_normal ?_
              refine HQ.block_normal ?_
              refine HQ.next ?_
              refine H.region ?_
              refine HO.v (V.add rfl rfl (by omega)) (ltn rfl) ?_
              refine HO.v (V.move rfl) (ltn rfl) ?_
              refine HO.nil ?_
              refine HQ.round ((k + 1, l3 ++ [x] ++ [b2i], A65, c65)) ?_ ?_ ?_
              · exact ⟨by omega, by rw [take_snoc hi, passF_snoc, ← hl, ← ht]; exact (meltF_no hns (by simpa using h55)).symm⟩
              · dsimp only; omega
              · skip
                exact HQ.fits (.cons rfl (.cons rfl (.cons rfl (.cons rfl (.cons rfl (.cons rfl (.nil))))))) (by exact Rems.cons (by exact .here) (Rems.cons (by exact (.there (.there (.there .here)))) (Rems.cons (by exact (.there (.there (.there .here)))) (Rems.nil))))
            · skip
              try simp only [decide_eq_true_eq, decide_eq_false_iff_not, Bool.not_eq_true', Bool.not_eq_false'] at h55
              refine H.skip ?_
              refine HQ.next ?_
              refine H.seq ?_
              refine H.region ?_
              refine HO.v (V.move rfl) (ltn rfl) ?_
              refine HO.v (V.move rfl) (ltn rfl) ?_
              refine HO.v (V.len Tryd.underlying24 rfl) (ltn rfl) ?_
              refine HO.v (V.sub rfl rfl (by first | omega | (simp; done) | (simp; omega) | (simp at hlen ⊢; omega))) (ltn rfl) ?_
              refine HO.sliceTo (N := encIn) l3 [x] Tryd.underlying24 sz26 rfl rfl (by simp) (ltn rfl) (by exact .mk (.there .here)) ?_
              refine HO.v (V.assign rfl) (ltn rfl) ?_
              refine HO.nil ?_
              refine HQ.next ?_
              refine H.region ?_
              refine HO.v (V.loadA ag26 rfl (by exact .mk (.there .here) (by repeat constructor))) (ltn rfl) ?_
              refine HO.store sz26 rfl rfl rfl rfl rfl (by exact .mk (.there (.there .here)) (by repeat constructor)) ?_
              refine HO.nil ?_
              refine HQ.block_normal ?_
              refine HQ.round ((l3, (melt x b2i).1, A2, c2)) ?_ ?_ ?_
              · exact ⟨by rw [← ht, meltF_yes hns (by simpa using h55)], by simp at hlen ⊢; omega, fun y hy => hml y (by simp [hy]), melt_may (hml x (by simp)) hmb (by simpa using h55)⟩
              · simp
              · skip
                exact HQ.fits (.cons rfl (.cons rfl (.cons rfl (.cons rfl (.cons rfl (.cons rfl (.cons rfl (.nil)))))))) (by exact Rems.cons (by exact (.there .here)) (Rems.cons (by exact .here) (Rems.cons (by exact (.there .here)) (Rems.cons (by exact (.there .here)) (Rems.nil)))))
          · skip
            refine HO.alloc ze26 rfl (ltn rfl) ?_
            intro b10
            refine HO.nil ?_
            refine HQ.again (.cons (by exact (.tail _ (.head _))) (.cons (by exact (.tail _ (.tail _ (.head _)))) (.cons (by exact (.tail _ (.tail _ (.tail _ (.head _))))) (.cons (by exact (.tail _ (.tail _ (.tail _ (.tail _ (.head _)))))) (Sub.nil))))) rfl ?_
            refine HA.one (i := 7) rfl (by kernel_rfl) ?_
            refine HO.call ca32 (.cons rfl (.cons rfl (.nil))) (melt_w x b2i (hml x (by simp)) hmb) (by exact Rems.nil) (by (refine Reads.ro (.head _) ?_); exact Reads.nil) (ltn rfl) ?_
            rintro v51 L51 ⟨rfl, rfl⟩
            dsimp only [List.nil_append, List.cons_append]
            refine HO.nil ?_
            refine HQ.again (.cons (by exact (.tail _ (.head _))) (.cons (by exact (.tail _ (.tail _ (.head _)))) (.cons (by exact (.tail _ (.tail _ (.tail _ (.head _))))) (.cons (by exact (.tail _ (.tail _ (.tail _ (.tail _ (.head _)))))) (Sub.nil))))) rfl ?_
            refine HA.take (i := 8) rfl rfl (ltn rfl) (by kernel_rfl) (by kernel_rfl) (by kernel_rfl) (gives_of want_none (V.move rfl)) (.cons (by exact (.tail _ (.head _))) (.cons (by exact (.tail _ (.tail _ (.head _)))) (.cons (by exact (.tail _ (.tail _ (.tail _ (.head _))))) (.cons (by exact (.tail _ (.tail _ (.tail _ (.tail _ (.head _)))))) (Sub.nil))))) rfl ?_
            refine HA.take (i := 9) rfl rfl (ltn rfl) (by kernel_rfl) (by kernel_rfl) (by kernel_rfl) (gives_of want_none (V.extract rfl rfl)) (.cons (by exact (.tail _ (.head _))) (.cons (by exact (.tail _ (.tail _ (.head _)))) (.cons (by exact (.tail _ (.tail _ (.tail _ (.head _))))) (.cons (by exact (.tail _ (.tail _ (.tail _ (.tail _ (.head _)))))) (Sub.nil))))) rfl ?_
            refine HA.take (i := 10) rfl rfl (ltn rfl) (by kernel_rfl) (by kernel_rfl) (by kernel_rfl) (gives_of want_none (V.extract rfl rfl)) (.cons (by exact (.tail _ (.head _))) (.cons (by exact (.tail _ (.tail _ (.head _)))) (.cons (by exact (.tail _ (.tail _ (.tail _ (.head _))))) (.cons (by exact (.tail _ (.tail _ (.tail _ (.tail _ (.head _)))))) (Sub.nil))))) rfl ?_
            refine HA.one (i := 12) rfl (by kernel_rfl) ?_
            refine HO.store sz26 rfl rfl rfl rfl rfl (by exact .mk .here (by repeat constructor)) ?_
            refine HO.nil ?_
            refine HQ.again (.cons (by exact (.tail _ (.head _))) (.cons (by exact (.tail _ (.tail _ (.head _)))) (.cons (by exact (.tail _ (.tail _ (.tail _ (.head _))))) (.cons (by exact (.tail _ (.tail _ (.tail _ (.tail _ (.head _)))))) (Sub.nil))))) rfl ?_
            refine HA.take (i := 13) rfl rfl (ltn rfl) (by kernel_rfl) (by kernel_rfl) (by kernel_rfl) (gives_of want_none (V.assign rfl)) (.cons (by exact (.tail _ (.head _))) (.cons (by exact (.tail _ (.tail _ (.head _)))) (.cons (by exact (.tail _ (.tail _ (.tail _ (.head _))))) (.cons (by exact (.tail _ (.tail _ (.tail _ (.tail _ (.head _)))))) (Sub.nil))))) rfl ?_
            refine HA.done (by kernel_rfl) ?_
            refine HQ.next ?_
            refine H.seq ?_
            refine H.seq ?_
            refine H.region ?_
            refine HO.v (V.move rfl) (ltn rfl) ?_
            refine HO.v (V.not rfl) (ltn rfl) ?_
            refine HO.nil ?_
            refine HQ.next ?_
            refine H.condB rfl (fun h55 => ?_) (fun h55 => ?_)
            · skip
              try simp only [decide_eq_true_eq, decide_eq_false_iff_not, Bool.not_eq_true', Bool.not_eq_false'] at h55
              refine H.exit ?_
              refine HQ.then_exit ?_
              refine HQ.exit_miss (by decide) ?_
              refine HQ.then_exit ?_
              refine HQ.exit_hit ?_
              refine HQ.next ?_
              refine H.region ?_
              refine HO.v (V.move rfl) (ltn rfl) ?_
              refine HO.v (V.loadA ag26 rfl (by exact .mk (.there (.there .here)) (by repeat constructor))) (ltn rfl) ?_
              refine HO.buildRow encIn ([b2i]) Tryd.underlying24 ze26 (.cons rfl (.nil)) (.cons rfl (.nil)) (Nat.le_of_ble_eq_true rfl) (Nat.le_of_ble_eq_true rfl) (ltn rfl) ?_
              intro b64
              refine HO.append (N := encIn) (zs := [b2i]) Tryd.underlying24 ze26 rfl rfl rfl (by exact (.there (.there .here))) (by exact Has.own .here) (by first | omega | (simp; done) | (simp; omega) | (simp at hlen ⊢; omega)) (by decide) (ltn rfl) ?_
              intro A65 c65
              refine HO.v (V.assign rfl) (ltn rfl) ?_
              refine HO.nil ?_
              refine HQ.scope_normal ?_
              refine HQ.block_normal ?_
              refine HQ.next ?_
              refine H.region ?_
              refine HO.v (V.add rfl rfl (by omega)) (ltn rfl) ?_
              refine HO.v (V.move rfl) (ltn rfl) ?_
              refine HO.nil ?_
              refine HQ.round ((k + 1, l3 ++ [x] ++ [b2i], A65, c65)) ?_ ?_ ?_
              · exact ⟨by omega, by rw [take_snoc hi, passF_snoc, ← hl, ← ht]; exact (meltF_no hns (by simpa using h55)).symm⟩
              · dsimp only; omega
              · skip
                exact HQ.fits (.cons rfl (.cons rfl (.cons rfl (.cons rfl (.cons rfl (.cons rfl (.nil))))))) (by exact Rems.cons (by exact .here) (Rems.cons (by exact (.there (.there (.there .here)))) (Rems.cons (by exact (.there (.there (.there .here)))) (Rems.nil))))
            · skip
              try simp only [decide_eq_true_eq, decide_eq_false_iff_not, Bool.not_eq_true', Bool.not_eq_false'] at h55
              refine H.skip ?_
              refine HQ.next ?_
              refine H.seq ?_
              refine H.region ?_
              refine HO.v (V.move rfl) (ltn rfl) ?_
              refine HO.v (V.move rfl) (ltn rfl) ?_
              refine HO.v (V.len Tryd.underlying24 rfl) (ltn rfl) ?_
              refine HO.v (V.sub rfl rfl (by first | omega | (simp; done) | (simp; omega) | (simp at hlen ⊢; omega))) (ltn rfl) ?_
              refine HO.sliceTo (N := encIn) l3 [x] Tryd.underlying24 sz26 rfl rfl (by simp) (ltn rfl) (by exact .mk (.there .here)) ?_
              refine HO.v (V.assign rfl) (ltn rfl) ?_
              refine HO.nil ?_
              refine HQ.next ?_
              refine H.region ?_
              refine HO.v (V.loadA ag26 rfl (by exact .mk (.there .here) (by repeat constructor))) (ltn rfl) ?_
              refine HO.store sz26 rfl rfl rfl rfl rfl (by exact .mk (.there (.there .here)) (by repeat constructor)) ?_
              refine HO.nil ?_
              refine HQ.block_normal ?_
              refine HQ.round ((l3, (melt x b2i).1, A2, c2)) ?_ ?_ ?_
              · exact ⟨by rw [← ht, meltF_yes hns (by simpa using h55)], by simp at hlen ⊢; omega, fun y hy => hml y (by simp [hy]), melt_may (hml x (by simp)) hmb (by simpa using h55)⟩
              · simp
              · skip
                exact HQ.fits (.cons rfl (.cons rfl (.cons rfl (.cons rfl (.cons rfl (.cons rfl (.cons rfl (.nil)))))))) (by exact Rems.cons (by exact (.there .here)) (Rems.cons (by exact .here) (Rems.cons (by exact (.there .here)) (Rems.cons (by exact (.there .here)) (Rems.nil)))))
    · skip
      try simp only [decide_eq_true_eq, decide_eq_false_iff_not, Bool.not_eq_true', Bool.not_eq_false'] at g33
      refine HO.gskip rfl rfl rfl rfl (ltn rfl) ?_
      refine HO.gskip rfl rfl rfl rfl (ltn rfl) ?_
      refine HO.gskip rfl rfl rfl rfl (ltn rfl) ?_
      refine HO.gskip rfl rfl rfl rfl (ltn rfl) ?_
      refine HO.gskip rfl rfl rfl rfl (ltn rfl) ?_
      refine HO.v (V.pickF rfl rfl) (ltn rfl) ?_
      refine HO.nil ?_
      refine HQ.next ?_
      refine H.condF rfl rfl ?_
      refine H.skip ?_
      refine HQ.next ?_
      refine H.seq ?_
      refine H.seq ?_
      refine H.region ?_
      have hns : ¬ selfm b2i = true := by simp [selfm]; first | exact fun _ => h39 | (intro e; exact absurd e g33)
      refine HO.v (V.move rfl) (ltn rfl) ?_
      refine HO.v (V.len Tryd.underlying24 rfl) (ltn rfl) ?_
      refine HO.v (V.eqlI rfl rfl) (ltn rfl) ?_
      refine HO.nil ?_
      refine HQ.next ?_
      refine H.condB rfl (fun h42 => ?_) (fun h42 => ?_)
      · skip
        try simp only [decide_eq_true_eq, decide_eq_false_iff_not, Bool.not_eq_true', Bool.not_eq_false'] at h42
        obtain rfl : l2 = [] := List.eq_nil_of_length_eq_zero (by omega)
        refine H.exit ?_
        refine HQ.then_exit ?_
        refine HQ.exit_miss (by decide) ?_
        refine HQ.then_exit ?_
        refine HQ.exit_hit ?_
        refine HQ.next ?_
        refine H.region ?_
        refine HO.v (V.move rfl) (ltn rfl) ?_
        refine HO.v (V.loadA ag26 rfl (by exact .mk (.there .here) (by repeat constructor))) (ltn rfl) ?_
        refine HO.buildRow encIn ([b2i]) Tryd.underlying24 ze26 (.cons rfl (.nil)) (.cons rfl (.nil)) (Nat.le_of_ble_eq_true rfl) (Nat.le_of_ble_eq_true rfl) (ltn rfl) ?_
        intro b64
        refine HO.append (N := encIn) (zs := [b2i]) Tryd.underlying24 ze26 rfl rfl rfl (by exact (.there .here)) (by exact Has.own .here) (by first | omega | (simp; done) | (simp; omega) | (simp at hlen ⊢; omega)) (by decide) (ltn rfl) ?_
        intro A65 c65
        refine HO.v (V.assign rfl) (ltn rfl) ?_
        refine HO.nil ?_
        refine HQ.scope_normal ?_
        refine HQ.block_normal ?_
        refine HQ.next ?_
        refine H.region ?_
        refine HO.v (V.add rfl rfl (by omega)) (ltn rfl) ?_
        refine HO.v (V.move rfl) (ltn rfl) ?_
        refine HO.nil ?_
        refine HQ.round ((k + 1, [] ++ [b2i], A65, c65)) ?_ ?_ ?_
        · exact ⟨by omega, by rw [take_snoc hi, passF_snoc, ← hl, ← ht]; exact (meltF_nil hns).symm⟩
        · dsimp only; omega
        · skip
          exact HQ.fits (.cons rfl (.cons rfl (.cons rfl (.cons rfl (.cons rfl (.cons rfl (.nil))))))) (by exact Rems.cons (by exact .here) (Rems.cons (by exact (.there (.there .here))) (Rems.cons (by exact (.there (.there .here))) (Rems.nil))))
      · skip
        try simp only [decide_eq_true_eq, decide_eq_false_iff_not, Bool.not_eq_true', Bool.not_eq_false'] at h42
        obtain ⟨l3, x, rfl⟩ : ∃ l3 x, l2 = l3 ++ [x] := exists_concat (by intro e; subst e; simp at h42)
        have hx := last_at l3 x
        refine H.skip ?_
        refine HQ.next ?_
        refine H.seq ?_
        refine H.draws (.cons (i := 0) rfl (.cons (i := 1) rfl (.cons (i := 2) rfl (.cons (i := 3) rfl (.nil))))) (by kernel_rfl) ?_
        refine HA.take (i := 0) rfl rfl (ltn rfl) (by kernel_rfl) (by kernel_rfl) (by kernel_rfl) (gives_of want_none (V.move rfl)) (.cons (by exact (.head _)) (.cons (by exact (.tail _ (.head _))) (.cons (by exact (.tail _ (.tail _ (.head _)))) (.cons (by exact (.tail _ (.tail _ (.tail _ (.head _))))) (Sub.nil))))) rfl ?_
        refine HA.take (i := 1) rfl rfl (ltn rfl) (by kernel_rfl) (by kernel_rfl) (by kernel_rfl) (gives_of want_none (V.move rfl)) (.cons (by exact (.head _)) (.cons (by exact (.tail _ (.head _))) (.cons (by exact (.tail _ (.tail _ (.head _)))) (.cons (by exact (.tail _ (.tail _ (.tail _ (.head _))))) (Sub.nil))))) rfl ?_
        refine HA.take (i := 2) rfl rfl (ltn rfl) (by kernel_rfl) (by kernel_rfl) (by kernel_rfl) (gives_of want_none (V.len Tryd.underlying24 rfl)) (.cons (by exact (.head _)) (.cons (by exact (.tail _ (.head _))) (.cons (by exact (.tail _ (.tail _ (.head _)))) (.cons (by exact (.tail _ (.tail _ (.tail _ (.head _))))) (Sub.nil))))) rfl ?_
        refine HA.take (i := 3) rfl rfl (ltn rfl) (by kernel_rfl) (by kernel_rfl) (by kernel_rfl) (gives_of want_none (V.sub rfl rfl (by first | omega | (simp; done) | (simp; omega) | (simp at hlen ⊢; omega)))) (.cons (by exact (.head _)) (.cons (by exact (.tail _ (.head _))) (.cons (by exact (.tail _ (.tail _ (.head _)))) (.cons (by exact (.tail _ (.tail _ (.tail _ (.head _))))) (Sub.nil))))) rfl ?_
        refine HA.take (i := 4) rfl rfl (ltn rfl) (by kernel_rfl) (by kernel_rfl) (by kernel_rfl) (gives_of want_none (V.indexAddr (N := encIn) (ys := _) Tryd.underlying24 sz26 rfl rfl (by first | omega | (simp; done) | (simp; omega) | (simp at hlen ⊢; omega)) (by first | omega | (simp; done) | (simp; omega) | (simp at hlen ⊢; omega)) (by exact Has.own .here))) (.cons (by exact (.head _)) (.cons (by exact (.tail _ (.head _))) (.cons (by exact (.tail _ (.tail _ (.head _)))) (.cons (by exact (.tail _ (.tail _ (.tail _ (.head _))))) (Sub.nil))))) rfl ?_
        refine HA.take (i := 5) rfl rfl (ltn rfl) (by kernel_rfl) (by kernel_rfl) (by kernel_rfl) (gives_of want_none (V.loadEA (N := encIn) ag26 rfl (by exact .mk (Has.own .here) (hx) rfl))) (.cons (by exact (.head _)) (.cons (by exact (.tail _ (.head _))) (.cons (by exact (.tail _ (.tail _ (.head _)))) (.cons (by exact (.tail _ (.tail _ (.tail _ (.head _))))) (Sub.nil))))) rfl ?_
        refine HA.take (i := 6) rfl rfl (ltn rfl) (by kernel_rfl) (by kernel_rfl) (by kernel_rfl) (gives_of want_none (V.loadA ag26 rfl (by exact .mk (.there .here) (by repeat constructor)))) (.cons (by exact (.head _)) (.cons (by exact (.tail _ (.head _))) (.cons (by exact (.tail _ (.tail _ (.head _)))) (.cons (by exact (.tail _ (.tail _ (.tail _ (.head _))))) (Sub.nil))))) rfl ?_
        refine HA.two (i := 7) (j := 11) rfl rfl (by kernel_rfl) ?_ ?_
        · skip
          refine HO.call ca32 (.cons rfl (.cons rfl (.nil))) (melt_w x b2i (hml x (by simp)) hmb) (by exact Rems.nil) (by (refine Reads.ro (.head _) ?_); exact Reads.nil) (ltn rfl) ?_
          rintro v51 L51 ⟨rfl, rfl⟩
          dsimp only [List.nil_append, List.cons_append]
          refine HO.nil ?_
          refine HQ.again (.cons (by exact (.head _)) (.cons (by exact (.tail _ (.head _))) (.cons (by exact (.tail _ (.tail _ (.head _)))) (.cons (by exact (.tail _ (.tail _ (.tail _ (.head _))))) (Sub.nil))))) rfl ?_
          refine HA.take (i := 8) rfl rfl (ltn rfl) (by kernel_rfl) (by kernel_rfl) (by kernel_rfl) (gives_of want_none (V.move rfl)) (.cons (by exact (.head _)) (.cons (by exact (.tail _ (.head _))) (.cons (by exact (.tail _ (.tail _ (.head _)))) (.cons (by exact (.tail _ (.tail _ (.tail _ (.head _))))) (Sub.nil))))) rfl ?_
          refine HA.take (i := 9) rfl rfl (ltn rfl) (by kernel_rfl) (by kernel_rfl) (by kernel_rfl) (gives_of want_none (V.extract rfl rfl)) (.cons (by exact (.head _)) (.cons (by exact (.tail _ (.head _))) (.cons (by exact (.tail _ (.tail _ (.head _)))) (.cons (by exact (.tail _ (.tail _ (.tail _ (.head _))))) (Sub.nil))))) rfl ?_
          refine HA.take (i := 10) rfl rfl (ltn rfl) (by kernel_rfl) (by kernel_rfl) (by kernel_rfl) (gives_of want_none (V.extract rfl rfl)) (.cons (by exact (.head _)) (.cons (by exact (.tail _ (.head _))) (.cons (by exact (.tail _ (.tail _ (.head _)))) (.cons (by exact (.tail _ (.tail _ (.tail _ (.head _))))) (Sub.nil))))) rfl ?_
          refine HA.one (i := 11) rfl (by kernel_rfl) ?_
          refine HO.alloc ze26 rfl (ltn rfl) ?_
          intro b10
          refine HO.nil ?_
          refine HQ.again (.cons (by exact (.tail _ (.head _))) (.cons (by exact (.tail _ (.tail _ (.head _)))) (.cons (by exact (.tail _ (.tail _ (.tail _ (.head _))))) (.cons (by exact (.tail _ (.tail _ (.tail _ (.tail _ (.head _)))))) (Sub.nil))))) rfl ?_
          refine HA.one (i := 12) rfl (by kernel_rfl) ?_
          refine HO.store sz26 rfl rfl rfl rfl rfl (by exact .mk .here (by repeat constructor)) ?_
          refine HO.nil ?_
          refine HQ.again (.cons (by exact (.tail _ (.head _))) (.cons (by exact (.tail _ (.tail _ (.head _)))) (.cons (by exact (.tail _ (.tail _ (.tail _ (.head _))))) (.cons (by exact (.tail _ (.tail _ (.tail _ (.tail _ (.head _)))))) (Sub.nil))))) rfl ?_
          refine HA.take (i := 13) rfl rfl (ltn rfl) (by kernel_rfl) (by kernel_rfl) (by kernel_rfl) (gives_of want_none (V.assign rfl)) (.cons (by exact (.tail _ (.head _))) (.cons (by exact (.tail _ (.tail _ (.head _)))) (.cons (by exact (.tail _ (.tail _ (.tail _ (.head _))))) (.cons (by exact (.tail _ (.tail _ (.tail _ (.tail _ (.head _)))))) (Sub.nil))))) rfl ?_
          refine HA.done (by kernel_rfl) ?_
          refine HQ.next ?_
          refine H.seq ?_
          refine H.seq ?_
          refine H.region ?_
          refine HO.v (V.move rfl) (ltn rfl) ?_
          refine HO.v (V.not rfl) (ltn rfl) ?_
          refine HO.nil ?_
          refine HQ.next ?_
          refine H.condB rfl (fun h55 => ?_) (fun h55 => ?_)
          · skip
            try simp only [decide_eq_true_eq, decide_eq_false_iff_not, Bool.not_eq_true', Bool.not_eq_false'] at h55
            refine H.exit ?_
            refine HQ.then_exit ?_
            refine HQ.exit_miss (by decide) ?_
            refine HQ.then_exit ?_
            refine HQ.exit_hit ?_
            refine HQ.next ?_
            refine H.region ?_
            refine HO.v (V.move rfl) (ltn rfl) ?_
            refine HO.v (V.loadA ag26 rfl (by exact .mk (.there (.there .here)) (by repeat constructor))) (ltn rfl) ?_
            refine HO.buildRow encIn ([b2i]) Tryd.underlying24 ze26 (.cons rfl (.nil)) (.cons rfl (.nil)) (Nat.le_of_ble_eq_true rfl) (Nat.le_of_ble_eq_true rfl) (ltn rfl) ?_
            intro b64
            refine HO.append (N := encIn) (zs := [b2i]) Tryd.underlying24 ze26 rfl rfl rfl (by exact (.there (.there .here))) (by exact Has.own .here) (by first | omega | (simp; done) | (simp; omega) | (simp at hlen ⊢; omega)) (by decide) (ltn rfl) ?_
            intro A65 c65
            refine HO.v (V.assign rfl) (ltn rfl) ?_
            refine HO.nil ?_
            refine HQ.scope_normal ?_
            refine HQ.block_normal ?_
            refine HQ.next ?_
            refine H.region ?_
            refine HO.v (V.add rfl rfl (by omega)) (ltn rfl) ?_
            refine HO.v (V.move rfl) (ltn rfl) ?_
            refine HO.nil ?_
            refine HQ.round ((k + 1, l3 ++ [x] ++ [b2i], A65, c65)) ?_ ?_ ?_
            · exact ⟨by omega, by rw [take_snoc hi, passF_snoc, ← hl, ← ht]; exact (meltF_no hns (by simpa using h55)).symm⟩
            · dsimp only; omega
            · skip
              exact HQ.fits (.cons rfl (.cons rfl (.cons rfl (.cons rfl (.cons rfl (.cons rfl (.nil))))))) (by exact Rems.cons (by exact .here) (Rems.cons (by exact (.there (.there (.there .here)))) (Rems.cons (by exact (.there (.there (.there .here)))) (Rems.nil))))
          · skip
            try simp only [decide_eq_true_eq, decide_eq_false_iff_not, Bool.not_eq_true', Bool.not_eq_false'] at h55
            refine H.skip ?_
            refine HQ.next ?_
            refine H.seq ?_
            refine H.region ?_
            refine HO.v (V.move rfl) (ltn rfl) ?_
            refine HO.v (V.move rfl) (ltn rfl) ?_
            refine HO.v (V.len Tryd.underlying24 rfl) (ltn rfl) ?_
            refine HO.v (V.sub rfl rfl (by first | omega | (simp; done) | (simp; omega) | (simp at hlen ⊢; omega))) (ltn rfl) ?_
            refine HO.sliceTo (N := encIn) l3 [x] Tryd.underlying24 sz26 rfl rfl (by simp) (ltn rfl) (by exact .mk (.there .here)) ?_
            refine HO.v (V.assign rfl) (ltn rfl) ?_
            refine HO.nil ?_
            refine HQ.next ?_
            refine H.region ?_
            refine HO.v (V.loadA ag26 rfl (by exact .mk (.there .here) (by repeat constructor))) (ltn rfl) ?_
            refine HO.store sz26 rfl rfl rfl rfl rfl (by exact .mk (.there (.there .here)) (by repeat constructor)) ?_
            refine HO.nil ?_
            refine HQ.block_normal ?_
            refine HQ.round ((l3, (melt x b2i).1, A2, c2)) ?_ ?_ ?_
            · exact ⟨by rw [← ht, meltF_yes hns (by simpa using h55)], by simp at hlen ⊢; omega, fun y hy => hml y (by simp [hy]), melt_may (hml x (by simp)) hmb (by simpa using h55)⟩
            · simp
            · skip
              exact HQ.fits (.cons rfl (.cons rfl (.cons rfl (.cons rfl (.cons rfl (.cons rfl (.cons rfl (.nil)))))))) (by exact Rems.cons (by exact (.there .here)) (Rems.cons (by exact .here) (Rems.cons (by exact (.there .here)) (Rems.cons (by exact (.there .here)) (Rems.nil)))))
        · skip
          refine HO.alloc ze26 rfl (ltn rfl) ?_
          intro b10
          refine HO.nil ?_
          refine HQ.again (.cons (by exact (.tail _ (.head _))) (.cons (by exact (.tail _ (.tail _ (.head _)))) (.cons (by exact (.tail _ (.tail _ (.tail _ (.head _))))) (.cons (by exact (.tail _ (.tail _ (.tail _ (.tail _ (.head _)))))) (Sub.nil))))) rfl ?_
          refine HA.one (i := 7) rfl (by kernel_rfl) ?_
          refine HO.call ca32 (.cons rfl (.cons rfl (.nil))) (melt_w x b2i (hml x (by simp)) hmb) (by exact Rems.nil) (by (refine Reads.ro (.head _) ?_); exact Reads.nil) (ltn rfl) ?_
          rintro v51 L51 ⟨rfl, rfl⟩
          dsimp only [List.nil_append, List.cons_append]
          refine HO.nil ?_
          refine HQ.again (.cons (by exact (.tail _ (.head _))) (.cons (by exact (.tail _ (.tail _ (.head _)))) (.cons (by exact (.tail _ (.tail _ (.tail _ (.head _))))) (.cons (by exact (.tail _ (.tail _ (.tail _ (.tail _ (.head _)))))) (Sub.nil))))) rfl ?_
          refine HA.take (i := 8) rfl rfl (ltn rfl) (by kernel_rfl) (by kernel_rfl) (by kernel_rfl) (gives_of want_none (V.move rfl)) (.cons (by exact (.tail _ (.head _))) (.cons (by exact (.tail _ (.tail _ (.head _)))) (.cons (by exact (.tail _ (.tail _ (.tail _ (.head _))))) (.cons (by exact (.tail _ (.tail _ (.tail _ (.tail _ (.head _)))))) (Sub.nil))))) rfl ?_
          refine HA.take (i := 9) rfl rfl (ltn rfl) (by kernel_rfl) (by kernel_rfl) (by kernel_rfl) (gives_of want_none (V.extract rfl rfl)) (.cons (by exact (.tail _ (.head _))) (.cons (by exact (.tail _ (.tail _ (.head _)))) (.cons (by exact (.tail _ (.tail _ (.tail _ (.head _))))) (.cons (by exact (.tail _ (.tail _ (.tail _ (.tail _ (.head _)))))) (Sub.nil))))) rfl ?_
          refine HA.take (i := 10) rfl rfl (ltn rfl) (by kernel_rfl) (by kernel_rfl) (by kernel_rfl) (gives_of want_none (V.extract rfl rfl)) (.cons (by exact (.tail _ (.head _))) (.cons (by exact (.tail _ (.tail _ (.head _)))) (.cons (by exact (.tail _ (.tail _ (.tail _ (.head _))))) (.cons (by exact (.tail _ (.tail _ (.tail _ (.tail _ (.head _)))))) (Sub.nil))))) rfl ?_
          refine HA.one (i := 12) rfl (by kernel_rfl) ?_
          refine HO.store sz26 rfl rfl rfl rfl rfl (by exact .mk .here (by repeat constructor)) ?_
          refine HO.nil ?_
          refine HQ.again (.cons (by exact (.tail _ (.head _))) (.cons (by exact (.tail _ (.tail _ (.head _)))) (.cons (by exact (.tail _ (.tail _ (.tail _ (.head _))))) (.cons (by exact (.tail _ (.tail _ (.tail _ (.tail _ (.head _)))))) (Sub.nil))))) rfl ?_
          refine HA.take (i := 13) rfl rfl (ltn rfl) (by kernel_rfl) (by kernel_rfl) (by kernel_rfl) (gives_of want_none (V.assign rfl)) (.cons (by exact (.tail _ (.head _))) (.cons (by exact (.tail _ (.tail _ (.head _)))) (.cons (by exact (.tail _ (.tail _ (.tail _ (.head _))))) (.cons (by exact (.tail _ (.tail _ (.tail _ (.tail _ (.head _)))))) (Sub.nil))))) rfl ?_
          refine HA.done (by kernel_rfl) ?_
          refine HQ.next ?_
          refine H.seq ?_
          refine H.seq ?_
          refine H.region ?_
          refine HO.v (V.move rfl) (ltn rfl) ?_
          refine HO.v (V.not rfl) (ltn rfl) ?_
          refine HO.nil ?_
          refine HQ.next ?_
          refine H.condB rfl (fun h55 => ?_) (fun h55 => ?_)
          · skip
            try simp only [decide_eq_true_eq, decide_eq_false_iff_not, Bool.not_eq_true', Bool.not_eq_false'] at h55
            refine H.exit ?_
            refine HQ.then_exit ?_
            refine HQ.exit_miss (by decide) ?_
            refine HQ.then_exit ?_
            refine HQ.exit_hit ?_
            refine HQ.next ?_
            refine H.region ?_
            refine HO.v (V.move rfl) (ltn rfl) ?_
            refine HO.v (V.loadA ag26 rfl (by exact .mk (.there (.there .here)) (by repeat constructor))) (ltn rfl) ?_
            refine HO.buildRow encIn ([b2i]) Tryd.underlying24 ze26 (.cons rfl (.nil)) (.cons rfl (.nil)) (Nat.le_of_ble_eq_true rfl) (Nat.le_of_ble_eq_true rfl) (ltn rfl) ?_
            intro b64
            refine HO.append (N := encIn) (zs := [b2i]) Tryd.underlying24 ze26 rfl rfl rfl (by exact (.there (.there .here))) (by exact Has.own .here) (by first | omega | (simp; done) | (simp; omega) | (simp at hlen ⊢; omega)) (by decide) (ltn rfl) ?_
            intro A65 c65
            refine HO.v (V.assign rfl) (ltn rfl) ?_
            refine HO.nil ?_
            refine HQ.scope_normal ?_
            refine HQ.block_normal ?_
            refine HQ.next ?_
            refine H.region ?_
            refine HO.v (V.add rfl rfl (by omega)) (ltn rfl) ?_
            refine HO.v (V.move rfl) (ltn rfl) ?_
            refine HO.nil ?_
            refine HQ.round ((k + 1, l3 ++ [x] ++ [b2i], A65, c65)) ?_ ?_ ?_
            · exact ⟨by omega, by rw [take_snoc hi, passF_snoc, ← hl, ← ht]; exact (meltF_no hns (by simpa using h55)).symm⟩
            · dsimp only; omega
            · skip
              exact HQ.fits (.cons rfl (.cons rfl (.cons rfl (.cons rfl (.cons rfl (.cons rfl (.nil))))))) (by exact Rems.cons (by exact .here) (Rems.cons (by exact (.there (.there (.there .here)))) (Rems.cons (by exact (.there (.there (.there .here)))) (Rems.nil))))
          · skip
            try simp only [decide_eq_true_eq, decide_eq_false_iff_not, Bool.not_eq_true', Bool.not_eq_false'] at h55
            refine H.skip ?_
            refine HQ.next ?_
            refine H.seq ?_
            refine H.region ?_
            refine HO.v (V.move rfl) (ltn rfl) ?_
            refine HO.v (V.move rfl) (ltn rfl) ?_
            refine HO.v (V.len Tryd.underlying24 rfl) (ltn rfl) ?_
            refine HO.v (V.sub rfl rfl (by first | omega | (simp; done) | (simp; omega) | (simp at hlen ⊢; omega))) (ltn rfl) ?_
            refine HO.sliceTo (N := encIn) l3 [x] Tryd.underlying24 sz26 rfl rfl (by simp) (ltn rfl) (by exact .mk (.there .here)) ?_
            refine HO.v (V.assign rfl) (ltn rfl) ?_
            refine HO.nil ?_
            refine HQ.next ?_
            refine H.region ?_
            refine HO.v (V.loadA ag26 rfl (by exact .mk (.there .here) (by repeat constructor))) (ltn rfl) ?_
            refine HO.store sz26 rfl rfl rfl rfl rfl (by exact .mk (.there (.there .here)) (by repeat constructor)) ?_
            refine HO.nil ?_
            refine HQ.block_normal ?_
            refine HQ.round ((l3, (melt x b2i).1, A2, c2)) ?_ ?_ ?_
            · exact ⟨by rw [← ht, meltF_yes hns (by simpa using h55)], by simp at hlen ⊢; omega, fun y hy => hml y (by simp [hy]), melt_may (hml x (by simp)) hmb (by simpa using h55)⟩
            · simp
            · skip
              exact HQ.fits (.cons rfl (.cons rfl (.cons rfl (.cons rfl (.cons rfl (.cons rfl (.cons rfl (.nil)))))))) (by exact Rems.cons (by exact (.there .here)) (Rems.cons (by exact .here) (Rems.cons (by exact (.there .here)) (Rems.cons (by exact (.there .here)) (Rems.nil)))))
  · skip
    try simp only [decide_eq_true_eq, decide_eq_false_iff_not, Bool.not_eq_true', Bool.not_eq_false'] at h25
    have hfin : passF p.code = l := by rw [hl, List.take_of_length_le (by omega)]
    refine H.exit ?_
    refine HQ.then_exit ?_
    refine HQ.then_exit ?_
    refine HQ.exit_hit ?_
    refine HQ.keep (.cons (t := 1) rfl (.cons (t := 2) rfl (.cons (t := 6) rfl (.nil)))) ?_
    refine HQ.next ?_
    refine H.seq ?_
    refine H.draws (.cons (i := 0) rfl (.cons (i := 1) rfl (.nil))) (by kernel_rfl) ?_
    refine HA.take (i := 0) rfl rfl (ltn rfl) (by kernel_rfl) (by kernel_rfl) (by kernel_rfl) (gives_of want_none (V.fieldAddr (fs := #[]) fa38_0 rfl)) (.cons (by exact (.head _)) (.cons (by exact (.tail _ (.head _))) (Sub.nil))) rfl ?_
    refine HA.take (i := 1) rfl rfl (ltn rfl) (by kernel_rfl) (by kernel_rfl) (by kernel_rfl) (gives_of want_none (V.load sc3 rfl (by exact .mk (.there .here) rfl))) (.cons (by exact (.head _)) (.cons (by exact (.tail _ (.head _))) (Sub.nil))) rfl ?_
    refine HA.take (i := 2) rfl rfl (ltn rfl) (by kernel_rfl) (by kernel_rfl) (by kernel_rfl) (gives_of want_none (V.fieldAddr (fs := #[]) fa38_1 rfl)) (.cons (by exact (.head _)) (.cons (by exact (.tail _ (.head _))) (Sub.nil))) rfl ?_
    refine HA.take (i := 3) rfl rfl (ltn rfl) (by kernel_rfl) (by kernel_rfl) (by kernel_rfl) (gives_of want_none (V.load sc3 rfl (by exact .mk (.there .here) rfl))) (.cons (by exact (.head _)) (.cons (by exact (.tail _ (.head _))) (Sub.nil))) rfl ?_
    refine HA.take (i := 4) rfl rfl (ltn rfl) (by kernel_rfl) (by kernel_rfl) (by kernel_rfl) (gives_of want_none (V.move rfl)) (.cons (by exact (.head _)) (.cons (by exact (.tail _ (.head _))) (Sub.nil))) rfl ?_
    refine HA.take (i := 5) rfl rfl (ltn rfl) (by kernel_rfl) (by kernel_rfl) (by kernel_rfl) (gives_of want_none (V.fieldAddr (fs := #[]) fa38_3 rfl)) (.cons (by exact (.head _)) (.cons (by exact (.tail _ (.head _))) (Sub.nil))) rfl ?_
    refine HA.take (i := 6) rfl rfl (ltn rfl) (by kernel_rfl) (by kernel_rfl) (by kernel_rfl) (gives_of want_none (V.load sc30 rfl (by exact .mk (.there .here) rfl))) (.cons (by exact (.head _)) (.cons (by exact (.tail _ (.head _))) (Sub.nil))) rfl ?_
    refine HA.one (i := 7) rfl (by kernel_rfl) ?_
    refine HO.call ca36 (.cons rfl (.nil)) (cloneI_w p.outs B m (by have := hv.outs2; omega)) (by exact Rems.nil) (by (refine Reads.ro (.tail _ (.tail _ (.head _))) ?_); exact Reads.nil) (ltn rfl) ?_
    rintro v74 L74 ⟨D, j, rfl, rfl⟩
    dsimp only [List.nil_append, List.cons_append]
    refine HO.nil ?_
    refine HQ.again (.cons (by exact (.tail _ (.head _))) (.cons (by exact (.tail _ (.tail _ (.head _)))) (Sub.nil))) rfl ?_
    refine HA.take (i := 8) rfl rfl (ltn rfl) (by kernel_rfl) (by kernel_rfl) (by kernel_rfl) (gives_of want_none (V.build ze38 pl38 rfl (.cons rfl (.cons rfl (.cons rfl (.cons rfl (.nil))))) (.cons rfl rfl rfl (by repeat constructor) (.cons rfl rfl rfl (by repeat constructor) (.cons rfl rfl rfl (by repeat constructor) (.cons rfl rfl rfl (by repeat constructor) (.nil))))))) (.cons (by exact (.tail _ (.head _))) (.cons (by exact (.tail _ (.tail _ (.head _)))) (Sub.nil))) rfl ?_
    refine HA.one (i := 9) rfl (by kernel_rfl) ?_
    refine HO.store sz38 rfl rfl rfl rfl rfl (by exact .mk (.there (.there (.there .here))) (by repeat constructor)) ?_
    refine HO.nil ?_
    refine HQ.again (.cons (by exact (.tail _ (.tail _ (.head _)))) (.cons (by exact (.tail _ (.tail _ (.tail _ (.head _))))) (Sub.nil))) rfl ?_
    refine HA.take (i := 10) rfl rfl (ltn rfl) (by kernel_rfl) (by kernel_rfl) (by kernel_rfl) (gives_of want_none (V.assign rfl)) (.cons (by exact (.tail _ (.tail _ (.head _)))) (.cons (by exact (.tail _ (.tail _ (.tail _ (.head _))))) (Sub.nil))) rfl ?_
    refine HA.done (by kernel_rfl) ?_
    refine HQ.keep (.cons (t := 2) rfl (.cons (t := 3) rfl (.nil))) ?_
    refine HQ.next ?_
    refine H.ret ?_
    refine HQ.scope_ret ?_
    refine HQ.end_ rfl rfl rfl rfl (.inl rfl) _ (fun a w s => resR2 Tryd.results15 s (.agg ag38 rfl (by exact .mk .here (by repeat constructor))) (.tmp rfl)) ?_
    exact ⟨[rowE encIn 26 _ _ _, rowE (encI .i64) 3 _ _ _], _, Rems.cons (by exact (.there (.there .here))) (Rems.cons (by exact (.there .here)) Rems.nil), _, _, _, _, by rw [hfin], by rw [hfin]⟩

end Go.Proofs.YtmkoadgphhkfgaaDoor
