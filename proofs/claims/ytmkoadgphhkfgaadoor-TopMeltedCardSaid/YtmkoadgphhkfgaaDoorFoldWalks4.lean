/- Walks of the law's own pass, by hand, and of the test whether two lists are equal. Conditions: as the theorems say. -/
import Derived.Test.YtmkoadgphhkfgaaDoorFoldWalks2
import Derived.Test.YtmkoadgphhkfgaaDoorFoldWalks3b
import Derived.Test.YtmkoadgphhkfgaaDoorPgD
set_option linter.unusedVariables false
set_option linter.unusedSimpArgs false
set_option maxRecDepth 10000
namespace Go.Proofs.YtmkoadgphhkfgaaDoor
open Go Go.RowKit Sl Pg
theorem melt13_w' (a b : Ins) (ha : May a 128) (hb : May b 128) : Tri Tryd.prog 14 #[vIn a, vIn b] [] [] (fun v L' => v = .tuple #[vIn (melt a b).1, .bool (melt a b).2] ∧ L' = []) := by
  rw [← melt13_eq ha hb]; exact melt13_w a b ha hb

set_option maxRecDepth 100000

set_option maxRecDepth 10000

theorem pass13_w (code : List Ins) (A : Option Addr) (n : Nat) (hv : ∀ i ∈ code, May i 128) (hlen : code.length ≤ 16384) :
    Tri Tryd.prog 16 #[.slice A code.length n] [roE encIn A code] [] (fun v L' => ∃ C k, v = .slice C (passF code).length k ∧ L' = [rowE encIn 26 C k (passF code)]) := by
  refine Tri.of' 56 [.slice A code.length n] [(0, .slice A code.length n)] Tryd.func16 Tryd.ntmps16 rfl rfl rfl ?_
  intro w0
  refine H.seq ?_
  refine H.region ?_
  refine HO.v (V.assign rfl) (ltn rfl) ?_
  refine HO.nil ?_
  refine HQ.next ?_
  refine H.seq ?_
  refine H.region ?_
  refine HO.v (V.assign rfl) (ltn rfl) ?_
  refine HO.nil ?_
  refine HQ.next ?_
  refine H.seq ?_
  refine H.seq ?_
  refine H.region ?_
  refine HO.v (V.move rfl) (ltn rfl) ?_
  refine HO.v (V.len Tryd.underlying24 rfl) (ltn rfl) ?_
  refine HO.v (V.move rfl) (ltn rfl) ?_
  refine HO.nil ?_
  refine HQ.next ?_
  refine H.block ?_
  refine H.loop (σ := Nat × List Ins × Option Addr × Nat) (fun s => code.length - s.1) (fun s => [(3, .slice s.2.2.1 s.2.1.length s.2.2.2), (10, .slice A code.length n), (11, .int .i64 ((code.length : Nat) : Int)), (12, .int .i64 ((s.1 : Nat) : Int))]) (fun s => [rowE encIn 26 s.2.2.1 s.2.2.2 s.2.1]) (fun s => s.1 ≤ code.length ∧ s.2.1 = passF (code.take s.1)) ((0, [], none, 0)) ?_ ?_ ?_
  · exact ⟨Nat.zero_le _, rfl⟩
  · skip
    refine HQ.free (rowE encIn 26 none 0 ([] : List Ins)) rfl (fun w => OwnRow.nil w 26 5) ?_
    exact HQ.fits (.cons rfl (.cons rfl (.cons rfl (.cons rfl (.nil))))) (by exact Rems.cons (by exact .here) (Rems.nil))
  intro s hI
  obtain ⟨k, l, Al, cl⟩ := s
  obtain ⟨hk, hl⟩ := hI
  dsimp only at hk hl ⊢
  have hlk : l.length ≤ k := by rw [hl]; have := passF_length (code.take k); simp at this; omega
  have hml0 : ∀ x ∈ l, May x 128 := by rw [hl]; exact passF_may fun x hx => hv x (List.mem_of_mem_take hx)
  refine H.seq ?_
  refine H.region ?_
  refine HO.v (V.lss rfl rfl) (ltn rfl) ?_
  refine HO.nil ?_
  refine HQ.next ?_
  refine H.seq ?_
  refine H.condB rfl (fun h13 => ?_) (fun h13 => ?_)
  · skip
    try simp only [decide_eq_true_eq, decide_eq_false_iff_not, Bool.not_eq_true', Bool.not_eq_false'] at h13
    obtain ⟨i, hi⟩ : ∃ i, code[k]? = some i := ⟨_, List.getElem?_eq_getElem (by omega)⟩
    have hmi := hv i (List.mem_of_getElem? hi)
    refine H.skip ?_
    refine HQ.next ?_
    refine H.seq ?_
    refine H.block ?_
    refine H.seq ?_
    refine H.region ?_
    refine HO.v (V.indexAddr (N := encIn) (ys := _) Tryd.underlying24 sz26 rfl rfl (by omega) (by omega) (by exact Has.ro (.head _))) (ltn rfl) ?_
    refine HO.v (V.loadEA (N := encIn) ag26 rfl (by exact .mk (Has.ro (.head _)) (hi) rfl)) (ltn rfl) ?_
    refine HO.alloc ze26 rfl (ltn rfl) ?_
    intro b5
    refine HO.store sz26 rfl rfl rfl rfl rfl (by exact .mk .here (by repeat constructor)) ?_
    refine HO.nil ?_
    refine HQ.next ?_
    refine H.seq ?_
    refine H.region ?_
    refine HO.v (V.loadA ag26 rfl (by exact .mk .here (by repeat constructor))) (ltn rfl) ?_
    refine HO.call ca12 (.cons rfl (.nil)) (plain13_w i (cok_bd (op := i.op) hmi.c)) (by exact Rems.nil) (by exact Reads.nil) (ltn rfl) ?_
    rintro v17 L17 ⟨rfl, rfl⟩
    dsimp only [List.nil_append, List.cons_append]
    refine HO.alloc ze26 rfl (ltn rfl) ?_
    intro b6
    refine HO.store sz26 rfl rfl rfl rfl rfl (by exact .mk .here (by repeat constructor)) ?_
    refine HO.nil ?_
    refine HQ.next ?_
    refine H.block ?_
    refine H.loop (σ := List Ins × Ins × Option Addr × Nat) (fun s => s.1.length) (fun s => [(3, .slice s.2.2.1 s.1.length s.2.2.2), (6, .pointer (some ⟨b6, 0, none⟩)), (10, .slice A code.length n), (11, .int .i64 ((code.length : Nat) : Int)), (12, .int .i64 ((k : Nat) : Int))]) (fun s => [rowE encIn 26 s.2.2.1 s.2.2.2 s.1, cellsCh b6 26 [.int .i64 s.2.1.op, .int .i64 s.2.1.to, .int .i64 s.2.1.a, .int .i64 s.2.1.b, .int .i64 s.2.1.c]]) (fun s => meltF s.1 s.2.1 = meltF l (plain i) ∧ s.1.length ≤ k ∧ (∀ x ∈ s.1, May x 128) ∧ May s.2.1 128) ((l, plain i, Al, cl)) ?_ ?_ ?_
    · exact ⟨rfl, hlk, hml0, plain_may hmi⟩
    · skip
      exact HQ.fits (.cons rfl (.cons rfl (.cons rfl (.cons rfl (.cons rfl (.nil)))))) (by exact Rems.cons (by exact (.there (.there .here))) (Rems.cons (by exact .here) (Rems.nil)))
    intro s hI
    obtain ⟨l2, b2i, A2, c2⟩ := s
    obtain ⟨ht, hlen2, hml, hmb⟩ := hI
    dsimp only at ht hlen2 hml hmb ⊢
    refine H.block ?_
    refine H.seq ?_
    refine H.seq ?_
    refine H.region ?_
    refine HO.v (V.fieldAddr (fs := #[]) fa26_0 rfl) (ltn rfl) ?_
    refine HO.v (V.load sc3 rfl (by exact .mk (.there .here) rfl)) (ltn rfl) ?_
    refine HO.v (V.eqlI rfl rfl) (ltn rfl) ?_
    refine HO.v (V.move rfl) (ltn rfl) ?_
    refine HO.part (t := 21) rfl (fun g21 => ?_) (fun g21 => ?_)
    · skip
      try simp only [decide_eq_true_eq, decide_eq_false_iff_not, Bool.not_eq_true', Bool.not_eq_false'] at g21
      refine HO.gdo rfl rfl rfl rfl ?_
      refine HO.v (V.fieldAddr (fs := #[]) fa26_1 rfl) (ltn rfl) ?_
      refine HO.gdo rfl rfl rfl rfl ?_
      refine HO.v (V.load sc3 rfl (by exact .mk (.there .here) rfl)) (ltn rfl) ?_
      refine HO.gdo rfl rfl rfl rfl ?_
      refine HO.v (V.fieldAddr (fs := #[]) fa26_2 rfl) (ltn rfl) ?_
      refine HO.gdo rfl rfl rfl rfl ?_
      refine HO.v (V.load sc3 rfl (by exact .mk (.there .here) rfl)) (ltn rfl) ?_
      refine HO.gdo rfl rfl rfl rfl ?_
      refine HO.v (V.eqlI rfl rfl) (ltn rfl) ?_
      refine HO.v (V.pickT rfl rfl) (ltn rfl) ?_
      refine HO.nil ?_
      refine HQ.next ?_
      refine H.condB rfl (fun h27 => ?_) (fun h27 => ?_)
      · skip
        try simp only [decide_eq_true_eq, decide_eq_false_iff_not, Bool.not_eq_true', Bool.not_eq_false'] at h27
        refine H.exit ?_
        refine HQ.then_exit ?_
        refine HQ.exit_miss (by decide) ?_
        refine HQ.then_exit ?_
        refine HQ.exit_hit ?_
        refine HQ.block_normal ?_
        refine HQ.next ?_
        refine H.region ?_
        refine HO.v (V.add rfl rfl (by omega)) (ltn rfl) ?_
        refine HO.v (V.move rfl) (ltn rfl) ?_
        refine HO.nil ?_
        refine HQ.round ((k + 1, l2, A2, c2)) ?_ ?_ ?_
        · exact ⟨by omega, by rw [take_snoc hi, passF_snoc, ← hl, ← ht]; exact (meltF_self (by simp [selfm, g21, h27])).symm⟩
        · dsimp only; omega
        · skip
          exact HQ.fits (.cons rfl (.cons rfl (.cons rfl (.cons rfl (.nil))))) (by exact Rems.cons (by exact .here) (Rems.nil))
      · skip
        try simp only [decide_eq_true_eq, decide_eq_false_iff_not, Bool.not_eq_true', Bool.not_eq_false'] at h27
        refine H.skip ?_
        refine HQ.next ?_
        refine H.seq ?_
        refine H.seq ?_
        refine H.region ?_
        have hns : ¬ selfm b2i = true := by simp [selfm]; first | exact fun _ => h27 | (intro e; exact absurd e g21)
        refine HO.v (V.move rfl) (ltn rfl) ?_
        refine HO.v (V.len Tryd.underlying24 rfl) (ltn rfl) ?_
        refine HO.v (V.assign rfl) (ltn rfl) ?_
        refine HO.nil ?_
        refine HQ.next ?_
        refine H.seq ?_
        refine H.region ?_
        refine HO.v (V.move rfl) (ltn rfl) ?_
        refine HO.v (V.gtr rfl rfl) (ltn rfl) ?_
        refine HO.nil ?_
        refine HQ.next ?_
        refine H.condB rfl (fun h31 => ?_) (fun h31 => ?_)
        · skip
          try simp only [decide_eq_true_eq, decide_eq_false_iff_not, Bool.not_eq_true', Bool.not_eq_false'] at h31
          obtain ⟨l3, x, rfl⟩ : ∃ l3 x, l2 = l3 ++ [x] := exists_concat (by intro e; subst e; simp at h31)
          have hx := last_at l3 x
          refine H.seq ?_
          refine H.draws (.cons (i := 0) rfl (.cons (i := 1) rfl (.nil))) (by kernel_rfl) ?_
          refine HA.take (i := 0) rfl rfl (ltn rfl) (by kernel_rfl) (by kernel_rfl) (by kernel_rfl) (gives_of want_none (V.move rfl)) (.cons (by exact (.head _)) (.cons (by exact (.tail _ (.head _))) (Sub.nil))) rfl ?_
          refine HA.take (i := 1) rfl rfl (ltn rfl) (by kernel_rfl) (by kernel_rfl) (by kernel_rfl) (gives_of want_none (V.move rfl)) (.cons (by exact (.head _)) (.cons (by exact (.tail _ (.head _))) (Sub.nil))) rfl ?_
          refine HA.take (i := 2) rfl rfl (ltn rfl) (by kernel_rfl) (by kernel_rfl) (by kernel_rfl) (gives_of want_none (V.sub rfl rfl (by first | omega | (simp; done) | (simp; omega) | (simp at hlen2 ⊢; omega)))) (.cons (by exact (.head _)) (.cons (by exact (.tail _ (.head _))) (Sub.nil))) rfl ?_
          refine HA.take (i := 3) rfl rfl (ltn rfl) (by kernel_rfl) (by kernel_rfl) (by kernel_rfl) (gives_of want_none (V.indexAddr (N := encIn) (ys := _) Tryd.underlying24 sz26 rfl rfl (by first | omega | (simp; done) | (simp; omega) | (simp at hlen2 ⊢; omega)) (by first | omega | (simp; done) | (simp; omega) | (simp at hlen2 ⊢; omega)) (by exact Has.own .here))) (.cons (by exact (.head _)) (.cons (by exact (.tail _ (.head _))) (Sub.nil))) rfl ?_
          refine HA.take (i := 4) rfl rfl (ltn rfl) (by kernel_rfl) (by kernel_rfl) (by kernel_rfl) (gives_of want_none (V.loadEA (N := encIn) ag26 rfl (by exact .mk (Has.own .here) (hx) rfl))) (.cons (by exact (.head _)) (.cons (by exact (.tail _ (.head _))) (Sub.nil))) rfl ?_
          refine HA.take (i := 5) rfl rfl (ltn rfl) (by kernel_rfl) (by kernel_rfl) (by kernel_rfl) (gives_of want_none (V.loadA ag26 rfl (by exact .mk (.there .here) (by repeat constructor)))) (.cons (by exact (.head _)) (.cons (by exact (.tail _ (.head _))) (Sub.nil))) rfl ?_
          refine HA.two (i := 6) (j := 10) rfl rfl (by kernel_rfl) ?_ ?_
          · skip
            refine HO.call ca14 (.cons rfl (.cons rfl (.nil))) (melt13_w' x b2i (hml x (by simp)) hmb) (by exact Rems.nil) (by exact Reads.nil) (ltn rfl) ?_
            rintro v39 L39 ⟨rfl, rfl⟩
            dsimp only [List.nil_append, List.cons_append]
            refine HO.nil ?_
            refine HQ.again (.cons (by exact (.head _)) (.cons (by exact (.tail _ (.head _))) (Sub.nil))) rfl ?_
            refine HA.take (i := 7) rfl rfl (ltn rfl) (by kernel_rfl) (by kernel_rfl) (by kernel_rfl) (gives_of want_none (V.move rfl)) (.cons (by exact (.head _)) (.cons (by exact (.tail _ (.head _))) (Sub.nil))) rfl ?_
            refine HA.take (i := 8) rfl rfl (ltn rfl) (by kernel_rfl) (by kernel_rfl) (by kernel_rfl) (gives_of want_none (V.extract rfl rfl)) (.cons (by exact (.head _)) (.cons (by exact (.tail _ (.head _))) (Sub.nil))) rfl ?_
            refine HA.take (i := 9) rfl rfl (ltn rfl) (by kernel_rfl) (by kernel_rfl) (by kernel_rfl) (gives_of want_none (V.extract rfl rfl)) (.cons (by exact (.head _)) (.cons (by exact (.tail _ (.head _))) (Sub.nil))) rfl ?_
            refine HA.one (i := 10) rfl (by kernel_rfl) ?_
            refine HO.alloc ze26 rfl (ltn rfl) ?_
            intro b8
            refine HO.nil ?_
            refine HQ.again (.cons (by exact (.tail _ (.head _))) (.cons (by exact (.tail _ (.tail _ (.head _)))) (Sub.nil))) rfl ?_
            refine HA.one (i := 11) rfl (by kernel_rfl) ?_
            refine HO.store sz26 rfl rfl rfl rfl rfl (by exact .mk .here (by repeat constructor)) ?_
            refine HO.nil ?_
            refine HQ.again (.cons (by exact (.tail _ (.head _))) (.cons (by exact (.tail _ (.tail _ (.head _)))) (Sub.nil))) rfl ?_
            refine HA.take (i := 12) rfl rfl (ltn rfl) (by kernel_rfl) (by kernel_rfl) (by kernel_rfl) (gives_of want_none (V.assign rfl)) (.cons (by exact (.tail _ (.head _))) (.cons (by exact (.tail _ (.tail _ (.head _)))) (Sub.nil))) rfl ?_
            refine HA.done (by kernel_rfl) ?_
            refine HQ.next ?_
            refine H.seq ?_
            refine H.region ?_
            refine HO.v (V.move rfl) (ltn rfl) ?_
            refine HO.nil ?_
            refine HQ.next ?_
            refine H.condB rfl (fun h42 => ?_) (fun h42 => ?_)
            · skip
              try simp only [decide_eq_true_eq, decide_eq_false_iff_not, Bool.not_eq_true', Bool.not_eq_false'] at h42
              refine H.seq ?_
              refine H.draws (.cons (i := 0) rfl (.nil)) (by kernel_rfl) ?_
              refine HA.take (i := 0) rfl rfl (ltn rfl) (by kernel_rfl) (by kernel_rfl) (by kernel_rfl) (gives_of want_none (V.move rfl)) (.cons (by exact (.head _)) (Sub.nil)) rfl ?_
              refine HA.take (i := 1) rfl rfl (ltn rfl) (by kernel_rfl) (by kernel_rfl) (by kernel_rfl) (gives_of want_none (V.move rfl)) (.cons (by exact (.head _)) (Sub.nil)) rfl ?_
              refine HA.take (i := 2) rfl rfl (ltn rfl) (by kernel_rfl) (by kernel_rfl) (by kernel_rfl) (gives_of want_none (V.sub rfl rfl (by first | omega | (simp; done) | (simp; omega) | (simp at hlen2 ⊢; omega)))) (.cons (by exact (.head _)) (Sub.nil)) rfl ?_
              refine HA.take (i := 3) rfl rfl (ltn rfl) (by kernel_rfl) (by kernel_rfl) (by kernel_rfl) (gives_of want_none (V.move rfl)) (.cons (by exact (.head _)) (Sub.nil)) rfl ?_
              refine HA.take (i := 4) rfl rfl (ltn rfl) (by kernel_rfl) (by kernel_rfl) (by kernel_rfl) (gives_of want_none (V.sub rfl rfl (by first | omega | (simp; done) | (simp; omega) | (simp at hlen2 ⊢; omega)))) (.cons (by exact (.head _)) (Sub.nil)) rfl ?_
              refine HA.take (i := 6) rfl rfl (ltn rfl) (by kernel_rfl) (by kernel_rfl) (by kernel_rfl) (gives_of want_none (V.loadA ag26 rfl (by exact .mk .here (by repeat constructor)))) (.cons (by exact (.head _)) (Sub.nil)) rfl ?_
              refine HA.one (i := 5) rfl (by kernel_rfl) ?_
              refine HO.slice3 (N := encIn) l3 [x] l3.length Tryd.underlying24 sz26 rfl rfl rfl (by simp) (by simp) ⟨Nat.le_refl _, by simp⟩ (ltn rfl) (by exact .mk (.there .here)) ?_
              refine HO.nil ?_
              refine HQ.again (.cons (by exact (.tail _ (.head _))) (Sub.nil)) rfl ?_
              refine HA.take (i := 7) rfl rfl (ltn rfl) (by kernel_rfl) (by kernel_rfl) (by kernel_rfl) (gives_of want_none (V.assign rfl)) (.cons (by exact (.tail _ (.head _))) (Sub.nil)) rfl ?_
              refine HA.one (i := 8) rfl (by kernel_rfl) ?_
              refine HO.store sz26 rfl rfl rfl rfl rfl (by exact .mk (.there (.there .here)) (by repeat constructor)) ?_
              refine HO.nil ?_
              refine HQ.again (.cons (by exact (.tail _ (.tail _ (.head _)))) (Sub.nil)) rfl ?_
              refine HA.done (by kernel_rfl) ?_
              refine HQ.next ?_
              refine H.exit ?_
              refine HQ.then_exit ?_
              refine HQ.exit_hit ?_
              refine HQ.round ((l3, (melt x b2i).1, A2, l3.length)) ?_ ?_ ?_
              · exact ⟨by rw [← ht, meltF_yes hns (by simpa using h42)], by simp at hlen2 ⊢; omega, fun y hy => hml y (by simp [hy]), melt_may (hml x (by simp)) hmb (by simpa using h42)⟩
              · simp
              · skip
                exact HQ.fits (.cons rfl (.cons rfl (.cons rfl (.cons rfl (.cons rfl (.nil)))))) (by exact Rems.cons (by exact (.there .here)) (Rems.cons (by exact .here) (Rems.nil)))
            · skip
              try simp only [decide_eq_true_eq, decide_eq_false_iff_not, Bool.not_eq_true', Bool.not_eq_false'] at h42
              refine H.skip ?_
              refine HQ.next ?_
              refine H.seq ?_
              refine H.region ?_
              refine HO.v (V.move rfl) (ltn rfl) ?_
              refine HO.v (V.loadA ag26 rfl (by exact .mk (.there (.there .here)) (by repeat constructor))) (ltn rfl) ?_
              refine HO.buildRow encIn ([b2i]) Tryd.underlying24 ze26 (.cons rfl (.nil)) (.cons rfl (.nil)) (Nat.le_of_ble_eq_true rfl) (Nat.le_of_ble_eq_true rfl) (ltn rfl) ?_
              intro b52
              refine HO.append (N := encIn) (zs := [b2i]) Tryd.underlying24 ze26 rfl rfl rfl (by exact (.there (.there .here))) (by exact Has.own .here) (by first | omega | (simp; done) | (simp; omega) | (simp at hlen2 ⊢; omega)) (by decide) (ltn rfl) ?_
              intro A53 c53
              refine HO.v (V.assign rfl) (ltn rfl) ?_
              refine HO.nil ?_
              refine HQ.next ?_
              refine H.exit ?_
              refine HQ.exit_miss (by decide) ?_
              refine HQ.then_exit ?_
              refine HQ.exit_hit ?_
              refine HQ.block_normal ?_
              refine HQ.next ?_
              refine H.region ?_
              refine HO.v (V.add rfl rfl (by omega)) (ltn rfl) ?_
              refine HO.v (V.move rfl) (ltn rfl) ?_
              refine HO.nil ?_
              refine HQ.round ((k + 1, l3 ++ [x] ++ [b2i], A53, c53)) ?_ ?_ ?_
              · exact ⟨by omega, by rw [take_snoc hi, passF_snoc, ← hl, ← ht]; exact (meltF_no hns (by simpa using h42)).symm⟩
              · dsimp only; omega
              · skip
                exact HQ.fits (.cons rfl (.cons rfl (.cons rfl (.cons rfl (.nil))))) (by exact Rems.cons (by exact .here) (Rems.nil))
          · skip
            refine HO.alloc ze26 rfl (ltn rfl) ?_
            intro b8
            refine HO.nil ?_
            refine HQ.again (.cons (by exact (.tail _ (.head _))) (.cons (by exact (.tail _ (.tail _ (.head _)))) (Sub.nil))) rfl ?_
            refine HA.one (i := 6) rfl (by kernel_rfl) ?_
            refine HO.call ca14 (.cons rfl (.cons rfl (.nil))) (melt13_w' x b2i (hml x (by simp)) hmb) (by exact Rems.nil) (by exact Reads.nil) (ltn rfl) ?_
            rintro v39 L39 ⟨rfl, rfl⟩
            dsimp only [List.nil_append, List.cons_append]
            refine HO.nil ?_
            refine HQ.again (.cons (by exact (.tail _ (.head _))) (.cons (by exact (.tail _ (.tail _ (.head _)))) (Sub.nil))) rfl ?_
            refine HA.take (i := 7) rfl rfl (ltn rfl) (by kernel_rfl) (by kernel_rfl) (by kernel_rfl) (gives_of want_none (V.move rfl)) (.cons (by exact (.tail _ (.head _))) (.cons (by exact (.tail _ (.tail _ (.head _)))) (Sub.nil))) rfl ?_
            refine HA.take (i := 8) rfl rfl (ltn rfl) (by kernel_rfl) (by kernel_rfl) (by kernel_rfl) (gives_of want_none (V.extract rfl rfl)) (.cons (by exact (.tail _ (.head _))) (.cons (by exact (.tail _ (.tail _ (.head _)))) (Sub.nil))) rfl ?_
            refine HA.take (i := 9) rfl rfl (ltn rfl) (by kernel_rfl) (by kernel_rfl) (by kernel_rfl) (gives_of want_none (V.extract rfl rfl)) (.cons (by exact (.tail _ (.head _))) (.cons (by exact (.tail _ (.tail _ (.head _)))) (Sub.nil))) rfl ?_
            refine HA.one (i := 11) rfl (by kernel_rfl) ?_
            refine HO.store sz26 rfl rfl rfl rfl rfl (by exact .mk .here (by repeat constructor)) ?_
            refine HO.nil ?_
            refine HQ.again (.cons (by exact (.tail _ (.head _))) (.cons (by exact (.tail _ (.tail _ (.head _)))) (Sub.nil))) rfl ?_
            refine HA.take (i := 12) rfl rfl (ltn rfl) (by kernel_rfl) (by kernel_rfl) (by kernel_rfl) (gives_of want_none (V.assign rfl)) (.cons (by exact (.tail _ (.head _))) (.cons (by exact (.tail _ (.tail _ (.head _)))) (Sub.nil))) rfl ?_
            refine HA.done (by kernel_rfl) ?_
            refine HQ.next ?_
            refine H.seq ?_
            refine H.region ?_
            refine HO.v (V.move rfl) (ltn rfl) ?_
            refine HO.nil ?_
            refine HQ.next ?_
            refine H.condB rfl (fun h42 => ?_) (fun h42 => ?_)
            · skip
              try simp only [decide_eq_true_eq, decide_eq_false_iff_not, Bool.not_eq_true', Bool.not_eq_false'] at h42
              refine H.seq ?_
              refine H.draws (.cons (i := 0) rfl (.nil)) (by kernel_rfl) ?_
              refine HA.take (i := 0) rfl rfl (ltn rfl) (by kernel_rfl) (by kernel_rfl) (by kernel_rfl) (gives_of want_none (V.move rfl)) (.cons (by exact (.head _)) (Sub.nil)) rfl ?_
              refine HA.take (i := 1) rfl rfl (ltn rfl) (by kernel_rfl) (by kernel_rfl) (by kernel_rfl) (gives_of want_none (V.move rfl)) (.cons (by exact (.head _)) (Sub.nil)) rfl ?_
              refine HA.take (i := 2) rfl rfl (ltn rfl) (by kernel_rfl) (by kernel_rfl) (by kernel_rfl) (gives_of want_none (V.sub rfl rfl (by first | omega | (simp; done) | (simp; omega) | (simp at hlen2 ⊢; omega)))) (.cons (by exact (.head _)) (Sub.nil)) rfl ?_
              refine HA.take (i := 3) rfl rfl (ltn rfl) (by kernel_rfl) (by kernel_rfl) (by kernel_rfl) (gives_of want_none (V.move rfl)) (.cons (by exact (.head _)) (Sub.nil)) rfl ?_
              refine HA.take (i := 4) rfl rfl (ltn rfl) (by kernel_rfl) (by kernel_rfl) (by kernel_rfl) (gives_of want_none (V.sub rfl rfl (by first | omega | (simp; done) | (simp; omega) | (simp at hlen2 ⊢; omega)))) (.cons (by exact (.head _)) (Sub.nil)) rfl ?_
              refine HA.take (i := 6) rfl rfl (ltn rfl) (by kernel_rfl) (by kernel_rfl) (by kernel_rfl) (gives_of want_none (V.loadA ag26 rfl (by exact .mk .here (by repeat constructor)))) (.cons (by exact (.head _)) (Sub.nil)) rfl ?_
              refine HA.one (i := 5) rfl (by kernel_rfl) ?_
              refine HO.slice3 (N := encIn) l3 [x] l3.length Tryd.underlying24 sz26 rfl rfl rfl (by simp) (by simp) ⟨Nat.le_refl _, by simp⟩ (ltn rfl) (by exact .mk (.there .here)) ?_
              refine HO.nil ?_
              refine HQ.again (.cons (by exact (.tail _ (.head _))) (Sub.nil)) rfl ?_
              refine HA.take (i := 7) rfl rfl (ltn rfl) (by kernel_rfl) (by kernel_rfl) (by kernel_rfl) (gives_of want_none (V.assign rfl)) (.cons (by exact (.tail _ (.head _))) (Sub.nil)) rfl ?_
              refine HA.one (i := 8) rfl (by kernel_rfl) ?_
              refine HO.store sz26 rfl rfl rfl rfl rfl (by exact .mk (.there (.there .here)) (by repeat constructor)) ?_
              refine HO.nil ?_
              refine HQ.again (.cons (by exact (.tail _ (.tail _ (.head _)))) (Sub.nil)) rfl ?_
              refine HA.done (by kernel_rfl) ?_
              refine HQ.next ?_
              refine H.exit ?_
              refine HQ.then_exit ?_
              refine HQ.exit_hit ?_
              refine HQ.round ((l3, (melt x b2i).1, A2, l3.length)) ?_ ?_ ?_
              · exact ⟨by rw [← ht, meltF_yes hns (by simpa using h42)], by simp at hlen2 ⊢; omega, fun y hy => hml y (by simp [hy]), melt_may (hml x (by simp)) hmb (by simpa using h42)⟩
              · simp
              · skip
                exact HQ.fits (.cons rfl (.cons rfl (.cons rfl (.cons rfl (.cons rfl (.nil)))))) (by exact Rems.cons (by exact (.there .here)) (Rems.cons (by exact .here) (Rems.nil)))
            · skip
              try simp only [decide_eq_true_eq, decide_eq_false_iff_not, Bool.not_eq_true', Bool.not_eq_false'] at h42
              refine H.skip ?_
              refine HQ.next ?_
              refine H.seq ?_
              refine H.region ?_
              refine HO.v (V.move rfl) (ltn rfl) ?_
              refine HO.v (V.loadA ag26 rfl (by exact .mk (.there (.there .here)) (by repeat constructor))) (ltn rfl) ?_
              refine HO.buildRow encIn ([b2i]) Tryd.underlying24 ze26 (.cons rfl (.nil)) (.cons rfl (.nil)) (Nat.le_of_ble_eq_true rfl) (Nat.le_of_ble_eq_true rfl) (ltn rfl) ?_
              intro b52
              refine HO.append (N := encIn) (zs := [b2i]) Tryd.underlying24 ze26 rfl rfl rfl (by exact (.there (.there .here))) (by exact Has.own .here) (by first | omega | (simp; done) | (simp; omega) | (simp at hlen2 ⊢; omega)) (by decide) (ltn rfl) ?_
              intro A53 c53
              refine HO.v (V.assign rfl) (ltn rfl) ?_
              refine HO.nil ?_
              refine HQ.next ?_
              refine H.exit ?_
              refine HQ.exit_miss (by decide) ?_
              refine HQ.then_exit ?_
              refine HQ.exit_hit ?_
              refine HQ.block_normal ?_
              refine HQ.next ?_
              refine H.region ?_
              refine HO.v (V.add rfl rfl (by omega)) (ltn rfl) ?_
              refine HO.v (V.move rfl) (ltn rfl) ?_
              refine HO.nil ?_
              refine HQ.round ((k + 1, l3 ++ [x] ++ [b2i], A53, c53)) ?_ ?_ ?_
              · exact ⟨by omega, by rw [take_snoc hi, passF_snoc, ← hl, ← ht]; exact (meltF_no hns (by simpa using h42)).symm⟩
              · dsimp only; omega
              · skip
                exact HQ.fits (.cons rfl (.cons rfl (.cons rfl (.cons rfl (.nil))))) (by exact Rems.cons (by exact .here) (Rems.nil))
        · skip
          try simp only [decide_eq_true_eq, decide_eq_false_iff_not, Bool.not_eq_true', Bool.not_eq_false'] at h31
          obtain rfl : l2 = [] := List.eq_nil_of_length_eq_zero (by omega)
          refine H.skip ?_
          refine HQ.next ?_
          refine H.seq ?_
          refine H.region ?_
          refine HO.v (V.move rfl) (ltn rfl) ?_
          refine HO.v (V.loadA ag26 rfl (by exact .mk (.there .here) (by repeat constructor))) (ltn rfl) ?_
          refine HO.buildRow encIn ([b2i]) Tryd.underlying24 ze26 (.cons rfl (.nil)) (.cons rfl (.nil)) (Nat.le_of_ble_eq_true rfl) (Nat.le_of_ble_eq_true rfl) (ltn rfl) ?_
          intro b52
          refine HO.append (N := encIn) (zs := [b2i]) Tryd.underlying24 ze26 rfl rfl rfl (by exact (.there .here)) (by exact Has.own .here) (by first | omega | (simp; done) | (simp; omega) | (simp at hlen2 ⊢; omega)) (by decide) (ltn rfl) ?_
          intro A53 c53
          refine HO.v (V.assign rfl) (ltn rfl) ?_
          refine HO.nil ?_
          refine HQ.next ?_
          refine H.exit ?_
          refine HQ.exit_miss (by decide) ?_
          refine HQ.then_exit ?_
          refine HQ.exit_hit ?_
          refine HQ.block_normal ?_
          refine HQ.next ?_
          refine H.region ?_
          refine HO.v (V.add rfl rfl (by omega)) (ltn rfl) ?_
          refine HO.v (V.move rfl) (ltn rfl) ?_
          refine HO.nil ?_
          refine HQ.round ((k + 1, [] ++ [b2i], A53, c53)) ?_ ?_ ?_
          · exact ⟨by omega, by rw [take_snoc hi, passF_snoc, ← hl, ← ht]; exact (meltF_nil hns).symm⟩
          · dsimp only; omega
          · skip
            exact HQ.fits (.cons rfl (.cons rfl (.cons rfl (.cons rfl (.nil))))) (by exact Rems.cons (by exact .here) (Rems.nil))
    · skip
      try simp only [decide_eq_true_eq, decide_eq_false_iff_not, Bool.not_eq_true', Bool.not_eq_false'] at g21
      refine HO.gskip rfl rfl rfl rfl (ltn rfl) ?_
      refine HO.gskip rfl rfl rfl rfl (ltn rfl) ?_
      refine HO.gskip rfl rfl rfl rfl (ltn rfl) ?_
      refine HO.gskip rfl rfl rfl rfl (ltn rfl) ?_
      refine HO.gskip rfl rfl rfl rfl (ltn rfl) ?_
      refine HO.v (V.pickF rfl rfl) (ltn rfl) ?_
      refine HO.nil ?_
      refine HQ.next ?_
      refine H.condF rfl rfl ?_
      refine H.skip ?_
      refine HQ.next ?_
      refine H.seq ?_
      refine H.seq ?_
      refine H.region ?_
      have hns : ¬ selfm b2i = true := by simp [selfm]; first | exact fun _ => h27 | (intro e; exact absurd e g21)
      refine HO.v (V.move rfl) (ltn rfl) ?_
      refine HO.v (V.len Tryd.underlying24 rfl) (ltn rfl) ?_
      refine HO.v (V.assign rfl) (ltn rfl) ?_
      refine HO.nil ?_
      refine HQ.next ?_
      refine H.seq ?_
      refine H.region ?_
      refine HO.v (V.move rfl) (ltn rfl) ?_
      refine HO.v (V.gtr rfl rfl) (ltn rfl) ?_
      refine HO.nil ?_
      refine HQ.next ?_
      refine H.condB rfl (fun h31 => ?_) (fun h31 => ?_)
      · skip
        try simp only [decide_eq_true_eq, decide_eq_false_iff_not, Bool.not_eq_true', Bool.not_eq_false'] at h31
        obtain ⟨l3, x, rfl⟩ : ∃ l3 x, l2 = l3 ++ [x] := exists_concat (by intro e; subst e; simp at h31)
        have hx := last_at l3 x
        refine H.seq ?_
        refine H.draws (.cons (i := 0) rfl (.cons (i := 1) rfl (.nil))) (by kernel_rfl) ?_
        refine HA.take (i := 0) rfl rfl (ltn rfl) (by kernel_rfl) (by kernel_rfl) (by kernel_rfl) (gives_of want_none (V.move rfl)) (.cons (by exact (.head _)) (.cons (by exact (.tail _ (.head _))) (Sub.nil))) rfl ?_
        refine HA.take (i := 1) rfl rfl (ltn rfl) (by kernel_rfl) (by kernel_rfl) (by kernel_rfl) (gives_of want_none (V.move rfl)) (.cons (by exact (.head _)) (.cons (by exact (.tail _ (.head _))) (Sub.nil))) rfl ?_
        refine HA.take (i := 2) rfl rfl (ltn rfl) (by kernel_rfl) (by kernel_rfl) (by kernel_rfl) (gives_of want_none (V.sub rfl rfl (by first | omega | (simp; done) | (simp; omega) | (simp at hlen2 ⊢; omega)))) (.cons (by exact (.head _)) (.cons (by exact (.tail _ (.head _))) (Sub.nil))) rfl ?_
        refine HA.take (i := 3) rfl rfl (ltn rfl) (by kernel_rfl) (by kernel_rfl) (by kernel_rfl) (gives_of want_none (V.indexAddr (N := encIn) (ys := _) Tryd.underlying24 sz26 rfl rfl (by first | omega | (simp; done) | (simp; omega) | (simp at hlen2 ⊢; omega)) (by first | omega | (simp; done) | (simp; omega) | (simp at hlen2 ⊢; omega)) (by exact Has.own .here))) (.cons (by exact (.head _)) (.cons (by exact (.tail _ (.head _))) (Sub.nil))) rfl ?_
        refine HA.take (i := 4) rfl rfl (ltn rfl) (by kernel_rfl) (by kernel_rfl) (by kernel_rfl) (gives_of want_none (V.loadEA (N := encIn) ag26 rfl (by exact .mk (Has.own .here) (hx) rfl))) (.cons (by exact (.head _)) (.cons (by exact (.tail _ (.head _))) (Sub.nil))) rfl ?_
        refine HA.take (i := 5) rfl rfl (ltn rfl) (by kernel_rfl) (by kernel_rfl) (by kernel_rfl) (gives_of want_none (V.loadA ag26 rfl (by exact .mk (.there .here) (by repeat constructor)))) (.cons (by exact (.head _)) (.cons (by exact (.tail _ (.head _))) (Sub.nil))) rfl ?_
        refine HA.two (i := 6) (j := 10) rfl rfl (by kernel_rfl) ?_ ?_
        · skip
          refine HO.call ca14 (.cons rfl (.cons rfl (.nil))) (melt13_w' x b2i (hml x (by simp)) hmb) (by exact Rems.nil) (by exact Reads.nil) (ltn rfl) ?_
          rintro v39 L39 ⟨rfl, rfl⟩
          dsimp only [List.nil_append, List.cons_append]
          refine HO.nil ?_
          refine HQ.again (.cons (by exact (.head _)) (.cons (by exact (.tail _ (.head _))) (Sub.nil))) rfl ?_
          refine HA.take (i := 7) rfl rfl (ltn rfl) (by kernel_rfl) (by kernel_rfl) (by kernel_rfl) (gives_of want_none (V.move rfl)) (.cons (by exact (.head _)) (.cons (by exact (.tail _ (.head _))) (Sub.nil))) rfl ?_
          refine HA.take (i := 8) rfl rfl (ltn rfl) (by kernel_rfl) (by kernel_rfl) (by kernel_rfl) (gives_of want_none (V.extract rfl rfl)) (.cons (by exact (.head _)) (.cons (by exact (.tail _ (.head _))) (Sub.nil))) rfl ?_
          refine HA.take (i := 9) rfl rfl (ltn rfl) (by kernel_rfl) (by kernel_rfl) (by kernel_rfl) (gives_of want_none (V.extract rfl rfl)) (.cons (by exact (.head _)) (.cons (by exact (.tail _ (.head _))) (Sub.nil))) rfl ?_
          refine HA.one (i := 10) rfl (by kernel_rfl) ?_
          refine HO.alloc ze26 rfl (ltn rfl) ?_
          intro b8
          refine HO.nil ?_
          refine HQ.again (.cons (by exact (.tail _ (.head _))) (.cons (by exact (.tail _ (.tail _ (.head _)))) (Sub.nil))) rfl ?_
          refine HA.one (i := 11) rfl (by kernel_rfl) ?_
          refine HO.store sz26 rfl rfl rfl rfl rfl (by exact .mk .here (by repeat constructor)) ?_
          refine HO.nil ?_
          refine HQ.again (.cons (by exact (.tail _ (.head _))) (.cons (by exact (.tail _ (.tail _ (.head _)))) (Sub.nil))) rfl ?_
          refine HA.take (i := 12) rfl rfl (ltn rfl) (by kernel_rfl) (by kernel_rfl) (by kernel_rfl) (gives_of want_none (V.assign rfl)) (.cons (by exact (.tail _ (.head _))) (.cons (by exact (.tail _ (.tail _ (.head _)))) (Sub.nil))) rfl ?_
          refine HA.done (by kernel_rfl) ?_
          refine HQ.next ?_
          refine H.seq ?_
          refine H.region ?_
          refine HO.v (V.move rfl) (ltn rfl) ?_
          refine HO.nil ?_
          refine HQ.next ?_
          refine H.condB rfl (fun h42 => ?_) (fun h42 => ?_)
          · skip
            try simp only [decide_eq_true_eq, decide_eq_false_iff_not, Bool.not_eq_true', Bool.not_eq_false'] at h42
            refine H.seq ?_
            refine H.draws (.cons (i := 0) rfl (.nil)) (by kernel_rfl) ?_
            refine HA.take (i := 0) rfl rfl (ltn rfl) (by kernel_rfl) (by kernel_rfl) (by kernel_rfl) (gives_of want_none (V.move rfl)) (.cons (by exact (.head _)) (Sub.nil)) rfl ?_
            refine HA.take (i := 1) rfl rfl (ltn rfl) (by kernel_rfl) (by kernel_rfl) (by kernel_rfl) (gives_of want_none (V.move rfl)) (.cons (by exact (.head _)) (Sub.nil)) rfl ?_
            refine HA.take (i := 2) rfl rfl (ltn rfl) (by kernel_rfl) (by kernel_rfl) (by kernel_rfl) (gives_of want_none (V.sub rfl rfl (by first | omega | (simp; done) | (simp; omega) | (simp at hlen2 ⊢; omega)))) (.cons (by exact (.head _)) (Sub.nil)) rfl ?_
            refine HA.take (i := 3) rfl rfl (ltn rfl) (by kernel_rfl) (by kernel_rfl) (by kernel_rfl) (gives_of want_none (V.move rfl)) (.cons (by exact (.head _)) (Sub.nil)) rfl ?_
            refine HA.take (i := 4) rfl rfl (ltn rfl) (by kernel_rfl) (by kernel_rfl) (by kernel_rfl) (gives_of want_none (V.sub rfl rfl (by first | omega | (simp; done) | (simp; omega) | (simp at hlen2 ⊢; omega)))) (.cons (by exact (.head _)) (Sub.nil)) rfl ?_
            refine HA.take (i := 6) rfl rfl (ltn rfl) (by kernel_rfl) (by kernel_rfl) (by kernel_rfl) (gives_of want_none (V.loadA ag26 rfl (by exact .mk .here (by repeat constructor)))) (.cons (by exact (.head _)) (Sub.nil)) rfl ?_
            refine HA.one (i := 5) rfl (by kernel_rfl) ?_
            refine HO.slice3 (N := encIn) l3 [x] l3.length Tryd.underlying24 sz26 rfl rfl rfl (by simp) (by simp) ⟨Nat.le_refl _, by simp⟩ (ltn rfl) (by exact .mk (.there .here)) ?_
            refine HO.nil ?_
            refine HQ.again (.cons (by exact (.tail _ (.head _))) (Sub.nil)) rfl ?_
            refine HA.take (i := 7) rfl rfl (ltn rfl) (by kernel_rfl) (by kernel_rfl) (by kernel_rfl) (gives_of want_none (V.assign rfl)) (.cons (by exact (.tail _ (.head _))) (Sub.nil)) rfl ?_
            refine HA.one (i := 8) rfl (by kernel_rfl) ?_
            refine HO.store sz26 rfl rfl rfl rfl rfl (by exact .mk (.there (.there .here)) (by repeat constructor)) ?_
            refine HO.nil ?_
            refine HQ.again (.cons (by exact (.tail _ (.tail _ (.head _)))) (Sub.nil)) rfl ?_
            refine HA.done (by kernel_rfl) ?_
            refine HQ.next ?_
            refine H.exit ?_
            refine HQ.then_exit ?_
            refine HQ.exit_hit ?_
            refine HQ.round ((l3, (melt x b2i).1, A2, l3.length)) ?_ ?_ ?_
            · exact ⟨by rw [← ht, meltF_yes hns (by simpa using h42)], by simp at hlen2 ⊢; omega, fun y hy => hml y (by simp [hy]), melt_may (hml x (by simp)) hmb (by simpa using h42)⟩
            · simp
            · skip
              exact HQ.fits (.cons rfl (.cons rfl (.cons rfl (.cons rfl (.cons rfl (.nil)))))) (by exact Rems.cons (by exact (.there .here)) (Rems.cons (by exact .here) (Rems.nil)))
          · skip
            try simp only [decide_eq_true_eq, decide_eq_false_iff_not, Bool.not_eq_true', Bool.not_eq_false'] at h42
            refine H.skip ?_
            refine HQ.next ?_
            refine H.seq ?_
            refine H.region ?_
            refine HO.v (V.move rfl) (ltn rfl) ?_
            refine HO.v (V.loadA ag26 rfl (by exact .mk (.there (.there .here)) (by repeat constructor))) (ltn rfl) ?_
            refine HO.buildRow encIn ([b2i]) Tryd.underlying24 ze26 (.cons rfl (.nil)) (.cons rfl (.nil)) (Nat.le_of_ble_eq_true rfl) (Nat.le_of_ble_eq_true rfl) (ltn rfl) ?_
            intro b52
            refine HO.append (N := encIn) (zs := [b2i]) Tryd.underlying24 ze26 rfl rfl rfl (by exact (.there (.there .here))) (by exact Has.own .here) (by first | omega | (simp; done) | (simp; omega) | (simp at hlen2 ⊢; omega)) (by decide) (ltn rfl) ?_
            intro A53 c53
            refine HO.v (V.assign rfl) (ltn rfl) ?_
            refine HO.nil ?_
            refine HQ.next ?_
            refine H.exit ?_
            refine HQ.exit_miss (by decide) ?_
            refine HQ.then_exit ?_
            refine HQ.exit_hit ?_
            refine HQ.block_normal ?_
            refine HQ.next ?_
            refine H.region ?_
            refine HO.v (V.add rfl rfl (by omega)) (ltn rfl) ?_
            refine HO.v (V.move rfl) (ltn rfl) ?_
            refine HO.nil ?_
            refine HQ.round ((k + 1, l3 ++ [x] ++ [b2i], A53, c53)) ?_ ?_ ?_
            · exact ⟨by omega, by rw [take_snoc hi, passF_snoc, ← hl, ← ht]; exact (meltF_no hns (by simpa using h42)).symm⟩
            · dsimp only; omega
            · skip
              exact HQ.fits (.cons rfl (.cons rfl (.cons rfl (.cons rfl (.nil))))) (by exact Rems.cons (by exact .here) (Rems.nil))
        · skip
          refine HO.alloc ze26 rfl (ltn rfl) ?_
          intro b8
          refine HO.nil ?_
          refine HQ.again (.cons (by exact (.tail _ (.head _))) (.cons (by exact (.tail _ (.tail _ (.head _)))) (Sub.nil))) rfl ?_
          refine HA.one (i := 6) rfl (by kernel_rfl) ?_
          refine HO.call ca14 (.cons rfl (.cons rfl (.nil))) (melt13_w' x b2i (hml x (by simp)) hmb) (by exact Rems.nil) (by exact Reads.nil) (ltn rfl) ?_
          rintro v39 L39 ⟨rfl, rfl⟩
          dsimp only [List.nil_append, List.cons_append]
          refine HO.nil ?_
          refine HQ.again (.cons (by exact (.tail _ (.head _))) (.cons (by exact (.tail _ (.tail _ (.head _)))) (Sub.nil))) rfl ?_
          refine HA.take (i := 7) rfl rfl (ltn rfl) (by kernel_rfl) (by kernel_rfl) (by kernel_rfl) (gives_of want_none (V.move rfl)) (.cons (by exact (.tail _ (.head _))) (.cons (by exact (.tail _ (.tail _ (.head _)))) (Sub.nil))) rfl ?_
          refine HA.take (i := 8) rfl rfl (ltn rfl) (by kernel_rfl) (by kernel_rfl) (by kernel_rfl) (gives_of want_none (V.extract rfl rfl)) (.cons (by exact (.tail _ (.head _))) (.cons (by exact (.tail _ (.tail _ (.head _)))) (Sub.nil))) rfl ?_
          refine HA.take (i := 9) rfl rfl (ltn rfl) (by kernel_rfl) (by kernel_rfl) (by kernel_rfl) (gives_of want_none (V.extract rfl rfl)) (.cons (by exact (.tail _ (.head _))) (.cons (by exact (.tail _ (.tail _ (.head _)))) (Sub.nil))) rfl ?_
          refine HA.one (i := 11) rfl (by kernel_rfl) ?_
          refine HO.store sz26 rfl rfl rfl rfl rfl (by exact .mk .here (by repeat constructor)) ?_
          refine HO.nil ?_
          refine HQ.again (.cons (by exact (.tail _ (.head _))) (.cons (by exact (.tail _ (.tail _ (.head _)))) (Sub.nil))) rfl ?_
          refine HA.take (i := 12) rfl rfl (ltn rfl) (by kernel_rfl) (by kernel_rfl) (by kernel_rfl) (gives_of want_none (V.assign rfl)) (.cons (by exact (.tail _ (.head _))) (.cons (by exact (.tail _ (.tail _ (.head _)))) (Sub.nil))) rfl ?_
          refine HA.done (by kernel_rfl) ?_
          refine HQ.next ?_
          refine H.seq ?_
          refine H.region ?_
          refine HO.v (V.move rfl) (ltn rfl) ?_
          refine HO.nil ?_
          refine HQ.next ?_
          refine H.condB rfl (fun h42 => ?_) (fun h42 => ?_)
          · skip
            try simp only [decide_eq_true_eq, decide_eq_false_iff_not, Bool.not_eq_true', Bool.not_eq_false'] at h42
            refine H.seq ?_
            refine H.draws (.cons (i := 0) rfl (.nil)) (by kernel_rfl) ?_
            refine HA.take (i := 0) rfl rfl (ltn rfl) (by kernel_rfl) (by kernel_rfl) (by kernel_rfl) (gives_of want_none (V.move rfl)) (.cons (by exact (.head _)) (Sub.nil)) rfl ?_
            refine HA.take (i := 1) rfl rfl (ltn rfl) (by kernel_rfl) (by kernel_rfl) (by kernel_rfl) (gives_of want_none (V.move rfl)) (.cons (by exact (.head _)) (Sub.nil)) rfl ?_
            refine HA.take (i := 2) rfl rfl (ltn rfl) (by kernel_rfl) (by kernel_rfl) (by kernel_rfl) (gives_of want_none (V.sub rfl rfl (by first | omega | (simp; done) | (simp; omega) | (simp at hlen2 ⊢; omega)))) (.cons (by exact (.head _)) (Sub.nil)) rfl ?_
            refine HA.take (i := 3) rfl rfl (ltn rfl) (by kernel_rfl) (by kernel_rfl) (by kernel_rfl) (gives_of want_none (V.move rfl)) (.cons (by exact (.head _)) (Sub.nil)) rfl ?_
            refine HA.take (i := 4) rfl rfl (ltn rfl) (by kernel_rfl) (by kernel_rfl) (by kernel_rfl) (gives_of want_none (V.sub rfl rfl (by first | omega | (simp; done) | (simp; omega) | (simp at hlen2 ⊢; omega)))) (.cons (by exact (.head _)) (Sub.nil)) rfl ?_
            refine HA.take (i := 6) rfl rfl (ltn rfl) (by kernel_rfl) (by kernel_rfl) (by kernel_rfl) (gives_of want_none (V.loadA ag26 rfl (by exact .mk .here (by repeat constructor)))) (.cons (by exact (.head _)) (Sub.nil)) rfl ?_
            refine HA.one (i := 5) rfl (by kernel_rfl) ?_
            refine HO.slice3 (N := encIn) l3 [x] l3.length Tryd.underlying24 sz26 rfl rfl rfl (by simp) (by simp) ⟨Nat.le_refl _, by simp⟩ (ltn rfl) (by exact .mk (.there .here)) ?_
            refine HO.nil ?_
            refine HQ.again (.cons (by exact (.tail _ (.head _))) (Sub.nil)) rfl ?_
            refine HA.take (i := 7) rfl rfl (ltn rfl) (by kernel_rfl) (by kernel_rfl) (by kernel_rfl) (gives_of want_none (V.assign rfl)) (.cons (by exact (.tail _ (.head _))) (Sub.nil)) rfl ?_
            refine HA.one (i := 8) rfl (by kernel_rfl) ?_
            refine HO.store sz26 rfl rfl rfl rfl rfl (by exact .mk (.there (.there .here)) (by repeat constructor)) ?_
            refine HO.nil ?_
            refine HQ.again (.cons (by exact (.tail _ (.tail _ (.head _)))) (Sub.nil)) rfl ?_
            refine HA.done (by kernel_rfl) ?_
            refine HQ.next ?_
            refine H.exit ?_
            refine HQ.then_exit ?_
            refine HQ.exit_hit ?_
            refine HQ.round ((l3, (melt x b2i).1, A2, l3.length)) ?_ ?_ ?_
            · exact ⟨by rw [← ht, meltF_yes hns (by simpa using h42)], by simp at hlen2 ⊢; omega, fun y hy => hml y (by simp [hy]), melt_may (hml x (by simp)) hmb (by simpa using h42)⟩
            · simp
            · skip
              exact HQ.fits (.cons rfl (.cons rfl (.cons rfl (.cons rfl (.cons rfl (.nil)))))) (by exact Rems.cons (by exact (.there .here)) (Rems.cons (by exact .here) (Rems.nil)))
          · skip
            try simp only [decide_eq_true_eq, decide_eq_false_iff_not, Bool.not_eq_true', Bool.not_eq_false'] at h42
            refine H.skip ?_
            refine HQ.next ?_
            refine H.seq ?_
            refine H.region ?_
            refine HO.v (V.move rfl) (ltn rfl) ?_
            refine HO.v (V.loadA ag26 rfl (by exact .mk (.there (.there .here)) (by repeat constructor))) (ltn rfl) ?_
            refine HO.buildRow encIn ([b2i]) Tryd.underlying24 ze26 (.cons rfl (.nil)) (.cons rfl (.nil)) (Nat.le_of_ble_eq_true rfl) (Nat.le_of_ble_eq_true rfl) (ltn rfl) ?_
            intro b52
            refine HO.append (N := encIn) (zs := [b2i]) Tryd.underlying24 ze26 rfl rfl rfl (by exact (.there (.there .here))) (by exact Has.own .here) (by first | omega | (simp; done) | (simp; omega) | (simp at hlen2 ⊢; omega)) (by decide) (ltn rfl) ?_
            intro A53 c53
            refine HO.v (V.assign rfl) (ltn rfl) ?_
            refine HO.nil ?_
            refine HQ.next ?_
            refine H.exit ?_
            refine HQ.exit_miss (by decide) ?_
            refine HQ.then_exit ?_
            refine HQ.exit_hit ?_
            refine HQ.block_normal ?_
            refine HQ.next ?_
            refine H.region ?_
            refine HO.v (V.add rfl rfl (by omega)) (ltn rfl) ?_
            refine HO.v (V.move rfl) (ltn rfl) ?_
            refine HO.nil ?_
            refine HQ.round ((k + 1, l3 ++ [x] ++ [b2i], A53, c53)) ?_ ?_ ?_
            · exact ⟨by omega, by rw [take_snoc hi, passF_snoc, ← hl, ← ht]; exact (meltF_no hns (by simpa using h42)).symm⟩
            · dsimp only; omega
            · skip
              exact HQ.fits (.cons rfl (.cons rfl (.cons rfl (.cons rfl (.nil))))) (by exact Rems.cons (by exact .here) (Rems.nil))
      · skip
        try simp only [decide_eq_true_eq, decide_eq_false_iff_not, Bool.not_eq_true', Bool.not_eq_false'] at h31
        obtain rfl : l2 = [] := List.eq_nil_of_length_eq_zero (by omega)
        refine H.skip ?_
        refine HQ.next ?_
        refine H.seq ?_
        refine H.region ?_
        refine HO.v (V.move rfl) (ltn rfl) ?_
        refine HO.v (V.loadA ag26 rfl (by exact .mk (.there .here) (by repeat constructor))) (ltn rfl) ?_
        refine HO.buildRow encIn ([b2i]) Tryd.underlying24 ze26 (.cons rfl (.nil)) (.cons rfl (.nil)) (Nat.le_of_ble_eq_true rfl) (Nat.le_of_ble_eq_true rfl) (ltn rfl) ?_
        intro b52
        refine HO.append (N := encIn) (zs := [b2i]) Tryd.underlying24 ze26 rfl rfl rfl (by exact (.there .here)) (by exact Has.own .here) (by first | omega | (simp; done) | (simp; omega) | (simp at hlen2 ⊢; omega)) (by decide) (ltn rfl) ?_
        intro A53 c53
        refine HO.v (V.assign rfl) (ltn rfl) ?_
        refine HO.nil ?_
        refine HQ.next ?_
        refine H.exit ?_
        refine HQ.exit_miss (by decide) ?_
        refine HQ.then_exit ?_
        refine HQ.exit_hit ?_
        refine HQ.block_normal ?_
        refine HQ.next ?_
        refine H.region ?_
        refine HO.v (V.add rfl rfl (by omega)) (ltn rfl) ?_
        refine HO.v (V.move rfl) (ltn rfl) ?_
        refine HO.nil ?_
        refine HQ.round ((k + 1, [] ++ [b2i], A53, c53)) ?_ ?_ ?_
        · exact ⟨by omega, by rw [take_snoc hi, passF_snoc, ← hl, ← ht]; exact (meltF_nil hns).symm⟩
        · dsimp only; omega
        · skip
          exact HQ.fits (.cons rfl (.cons rfl (.cons rfl (.cons rfl (.nil))))) (by exact Rems.cons (by exact .here) (Rems.nil))
  · skip
    try simp only [decide_eq_true_eq, decide_eq_false_iff_not, Bool.not_eq_true', Bool.not_eq_false'] at h13
    have hfin : passF code = l := by rw [hl, List.take_of_length_le (by omega)]
    refine H.exit ?_
    refine HQ.then_exit ?_
    refine HQ.then_exit ?_
    refine HQ.exit_hit ?_
    refine HQ.next ?_
    refine H.seq ?_
    refine H.region ?_
    refine HO.v (V.move rfl) (ltn rfl) ?_
    refine HO.v (V.assign rfl) (ltn rfl) ?_
    refine HO.nil ?_
    refine HQ.keep (.cons (t := 2) rfl (.nil)) ?_
    refine HQ.next ?_
    refine H.ret ?_
    refine HQ.end_ rfl rfl rfl rfl (.inl rfl) _ (fun a w s => res1 Tryd.results16 s rfl) ?_
    exact ⟨[rowE encIn 26 _ _ _], _, Rems.cons (by exact .here) Rems.nil, _, _, by rw [hfin], by rw [hfin]⟩
theorem same13_w (xs ys : List Ins) (A : Option Addr) (n : Nat) (C : Option Addr) (m : Nat) (hlen : xs.length ≤ 16384) :
    Tri Tryd.prog 17 #[.slice A xs.length n, .slice C ys.length m] [roE encIn A xs, roE encIn C ys] [] (fun v L' => v = .bool (decide (xs = ys)) ∧ L' = []) := by
  refine Tri.of' 33 [.slice A xs.length n, .slice C ys.length m] [(0, .slice A xs.length n), (1, .slice C ys.length m)] Tryd.func17 Tryd.ntmps17 rfl rfl rfl ?_
  intro w0
  refine H.seq ?_
  refine H.region ?_
  refine HO.v (V.assign rfl) (ltn rfl) ?_
  refine HO.nil ?_
  refine HQ.next ?_
  refine H.seq ?_
  refine H.seq ?_
  refine H.region ?_
  refine HO.v (V.assign rfl) (ltn rfl) ?_
  refine HO.nil ?_
  refine HQ.next ?_
  refine H.block ?_
  refine H.loop (σ := Nat) (fun s => xs.length - s) (fun s => [(0, .slice A xs.length n), (1, .slice C ys.length m), (5, .int .i64 ((s : Nat) : Int))]) (fun s => []) (fun s => s ≤ xs.length ∧ xs.take s = ys.take s) (0) ?_ ?_ ?_
  · exact ⟨Nat.zero_le _, rfl⟩
  · skip
    exact HQ.fits (.cons rfl (.cons rfl (.cons rfl (.nil)))) (by exact Rems.nil)
  intro k hI
  obtain ⟨hk, ht⟩ := hI
  dsimp only at hk ht ⊢
  refine H.seq ?_
  refine H.seq ?_
  refine H.region ?_
  refine HO.v (V.move rfl) (ltn rfl) ?_
  refine HO.v (V.move rfl) (ltn rfl) ?_
  refine HO.v (V.len Tryd.underlying24 rfl) (ltn rfl) ?_
  refine HO.v (V.lss rfl rfl) (ltn rfl) ?_
  refine HO.v (V.move rfl) (ltn rfl) ?_
  refine HO.part (t := 10) rfl (fun g10 => ?_) (fun g10 => ?_)
  · skip
    try simp only [decide_eq_true_eq, decide_eq_false_iff_not, Bool.not_eq_true', Bool.not_eq_false', insL] at g10
    refine HO.gdo rfl rfl rfl rfl ?_
    refine HO.v (V.move rfl) (ltn rfl) ?_
    refine HO.gdo rfl rfl rfl rfl ?_
    refine HO.v (V.len Tryd.underlying24 rfl) (ltn rfl) ?_
    refine HO.gdo rfl rfl rfl rfl ?_
    refine HO.v (V.move rfl) (ltn rfl) ?_
    refine HO.gdo rfl rfl rfl rfl ?_
    refine HO.v (V.len Tryd.underlying24 rfl) (ltn rfl) ?_
    refine HO.gdo rfl rfl rfl rfl ?_
    refine HO.v (V.eqlI rfl rfl) (ltn rfl) ?_
    refine HO.v (V.pickT rfl rfl) (ltn rfl) ?_
    refine HO.nil ?_
    refine HQ.next ?_
    refine H.condB rfl (fun h16 => ?_) (fun h16 => ?_)
    · skip
      try simp only [decide_eq_true_eq, decide_eq_false_iff_not, Bool.not_eq_true', Bool.not_eq_false', insL] at h16
      have hkl : k < xs.length ∧ xs.length = ys.length := by first | exact ⟨g10, by omega⟩ | omega
      obtain ⟨i, hi⟩ : ∃ i, xs[k]? = some i := ⟨_, List.getElem?_eq_getElem (by omega)⟩
      obtain ⟨j, hj⟩ : ∃ j, ys[k]? = some j := ⟨_, List.getElem?_eq_getElem (by omega)⟩
      refine H.skip ?_
      refine HQ.next ?_
      refine H.seq ?_
      refine H.block ?_
      refine H.seq ?_
      refine H.draws (.nil) (by kernel_rfl) ?_
      refine HA.take (i := 0) rfl rfl (ltn rfl) (by kernel_rfl) (by kernel_rfl) (by kernel_rfl) (gives_of want_none (V.move rfl)) (Sub.nil) rfl ?_
      refine HA.take (i := 1) rfl rfl (ltn rfl) (by kernel_rfl) (by kernel_rfl) (by kernel_rfl) (gives_of want_none (V.move rfl)) (Sub.nil) rfl ?_
      refine HA.take (i := 2) rfl rfl (ltn rfl) (by kernel_rfl) (by kernel_rfl) (by kernel_rfl) (gives_of want_none (V.indexAddr (N := encIn) (ys := _) Tryd.underlying24 sz26 rfl rfl (by omega) (by omega) (by exact Has.ro (.head _)))) (Sub.nil) rfl ?_
      refine HA.take (i := 3) rfl rfl (ltn rfl) (by kernel_rfl) (by kernel_rfl) (by kernel_rfl) (gives_of want_none (V.loadEA (N := encIn) ag26 rfl (by exact .mk (Has.ro (.head _)) (hi) rfl))) (Sub.nil) rfl ?_
      refine HA.take (i := 4) rfl rfl (ltn rfl) (by kernel_rfl) (by kernel_rfl) (by kernel_rfl) (gives_of want_none (V.move rfl)) (Sub.nil) rfl ?_
      refine HA.take (i := 5) rfl rfl (ltn rfl) (by kernel_rfl) (by kernel_rfl) (by kernel_rfl) (gives_of want_none (V.move rfl)) (Sub.nil) rfl ?_
      refine HA.take (i := 6) rfl rfl (ltn rfl) (by kernel_rfl) (by kernel_rfl) (by kernel_rfl) (gives_of want_none (V.indexAddr (N := encIn) (ys := _) Tryd.underlying24 sz26 rfl rfl (by omega) (by omega) (by exact Has.ro (.tail _ (.head _))))) (Sub.nil) rfl ?_
      refine HA.take (i := 7) rfl rfl (ltn rfl) (by kernel_rfl) (by kernel_rfl) (by kernel_rfl) (gives_of want_none (V.loadEA (N := encIn) ag26 rfl (by exact .mk (Has.ro (.tail _ (.head _))) (hj) rfl))) (Sub.nil) rfl ?_
      refine HA.take (i := 8) rfl rfl (ltn rfl) (by kernel_rfl) (by kernel_rfl) (by kernel_rfl) (gives_of want_none (V.neqS [_, _, _, _, _] [_, _, _, _, _] if26 rfl rfl rfl rfl)) (Sub.nil) rfl ?_
      refine HA.done (by kernel_rfl) ?_
      refine HQ.next ?_
      refine H.condB rfl (fun h27 => ?_) (fun h27 => ?_)
      · skip
        try simp only [decide_eq_true_eq, decide_eq_false_iff_not, Bool.not_eq_true', Bool.not_eq_false', insL] at h27
        refine H.seq ?_
        refine H.region ?_
        refine HO.v (V.assign rfl) (ltn rfl) ?_
        refine HO.nil ?_
        refine HQ.next ?_
        refine H.ret ?_
        refine HQ.block_ret ?_
        refine HQ.then_ret ?_
        refine HQ.then_ret ?_
        refine HQ.block_ret ?_
        refine HQ.then_ret ?_
        refine HQ.end_ rfl rfl rfl rfl (.inl rfl) _ (fun a w s => res1 Tryd.results17 s rfl) ?_
        refine ⟨_, _, .nil, ?_, rfl⟩
        rw [decide_eq_false (by intro e; subst e; rw [hi] at hj; cases hj; exact h27 rfl)]
      · skip
        try simp only [decide_eq_true_eq, decide_eq_false_iff_not, Bool.not_eq_true', Bool.not_eq_false', insL] at h27
        refine H.skip ?_
        refine HQ.block_normal ?_
        refine HQ.next ?_
        refine H.region ?_
        refine HO.v (V.move rfl) (ltn rfl) ?_
        refine HO.v (V.add rfl rfl (by omega)) (ltn rfl) ?_
        refine HO.v (V.assign rfl) (ltn rfl) ?_
        refine HO.nil ?_
        refine HQ.round (k + 1) ?_ ?_ ?_
        · exact ⟨by omega, by rw [take_snoc hi, take_snoc hj, ht, h27]⟩
        · omega
        · skip
          exact HQ.fits (.cons rfl (.cons rfl (.cons rfl (.nil)))) (by exact Rems.nil)
    · skip
      try simp only [decide_eq_true_eq, decide_eq_false_iff_not, Bool.not_eq_true', Bool.not_eq_false', insL] at h16
      refine H.exit ?_
      refine HQ.then_exit ?_
      refine HQ.then_exit ?_
      refine HQ.exit_hit ?_
      refine HQ.keep (.cons (t := 0) rfl (.cons (t := 1) rfl (.nil))) ?_
      refine HQ.next ?_
      refine H.seq ?_
      refine H.region ?_
      refine HO.v (V.move rfl) (ltn rfl) ?_
      refine HO.v (V.len Tryd.underlying24 rfl) (ltn rfl) ?_
      refine HO.v (V.move rfl) (ltn rfl) ?_
      refine HO.v (V.len Tryd.underlying24 rfl) (ltn rfl) ?_
      refine HO.v (V.eqlI rfl rfl) (ltn rfl) ?_
      refine HO.v (V.assign rfl) (ltn rfl) ?_
      refine HO.nil ?_
      refine HQ.keep (.cons (t := 4) rfl (.nil)) ?_
      refine HQ.next ?_
      refine H.ret ?_
      refine HQ.end_ rfl rfl rfl rfl (.inl rfl) _ (fun a w s => res1 Tryd.results17 s rfl) ?_
      refine ⟨_, _, .nil, ?_, rfl⟩
      rw [same_end hk ht (by first | (intro e1 e2; exact g10 (by omega)) | (intro e1 e2; exact h16 (by exact_mod_cast e2)) | omega)]
  · skip
    try simp only [decide_eq_true_eq, decide_eq_false_iff_not, Bool.not_eq_true', Bool.not_eq_false', insL] at g10
    refine HO.gskip rfl rfl rfl rfl (ltn rfl) ?_
    refine HO.gskip rfl rfl rfl rfl (ltn rfl) ?_
    refine HO.gskip rfl rfl rfl rfl (ltn rfl) ?_
    refine HO.gskip rfl rfl rfl rfl (ltn rfl) ?_
    refine HO.gskip rfl rfl rfl rfl (ltn rfl) ?_
    refine HO.v (V.pickF rfl rfl) (ltn rfl) ?_
    refine HO.nil ?_
    refine HQ.next ?_
    refine H.condF rfl rfl ?_
    refine H.exit ?_
    refine HQ.then_exit ?_
    refine HQ.then_exit ?_
    refine HQ.exit_hit ?_
    refine HQ.keep (.cons (t := 0) rfl (.cons (t := 1) rfl (.nil))) ?_
    refine HQ.next ?_
    refine H.seq ?_
    refine H.region ?_
    refine HO.v (V.move rfl) (ltn rfl) ?_
    refine HO.v (V.len Tryd.underlying24 rfl) (ltn rfl) ?_
    refine HO.v (V.move rfl) (ltn rfl) ?_
    refine HO.v (V.len Tryd.underlying24 rfl) (ltn rfl) ?_
    refine HO.v (V.eqlI rfl rfl) (ltn rfl) ?_
    refine HO.v (V.assign rfl) (ltn rfl) ?_
    refine HO.nil ?_
    refine HQ.keep (.cons (t := 4) rfl (.nil)) ?_
    refine HQ.next ?_
    refine H.ret ?_
    refine HQ.end_ rfl rfl rfl rfl (.inl rfl) _ (fun a w s => res1 Tryd.results17 s rfl) ?_
    refine ⟨_, _, .nil, ?_, rfl⟩
    rw [same_end hk ht (by first | (intro e1 e2; exact g10 (by omega)) | (intro e1 e2; exact h16 (by exact_mod_cast e2)) | omega)]

end Go.Proofs.YtmkoadgphhkfgaaDoor
