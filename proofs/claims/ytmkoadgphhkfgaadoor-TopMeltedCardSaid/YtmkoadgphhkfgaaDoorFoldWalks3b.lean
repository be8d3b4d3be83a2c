/- Walk of what melts, by hand. Conditions: as the theorems say. -/
import Derived.Test.YtmkoadgphhkfgaaDoorSlH
import Derived.Test.YtmkoadgphhkfgaaDoorFacts
import Derived.Test.YtmkoadgphhkfgaaDoorFoldWalks3
import Derived.Test.YtmkoadgphhkfgaaDoorPgC
set_option linter.unusedVariables false
set_option linter.unusedSimpArgs false
set_option maxRecDepth 10000
namespace Go.Proofs.YtmkoadgphhkfgaaDoor
open Go Go.RowKit Sl Pg

set_option maxRecDepth 100000

set_option maxRecDepth 10000

theorem melt13_w (a b : Ins) (ha : May a 128) (hb : May b 128) :
    Tri Tryd.prog 14 #[vIn a, vIn b] [] [] (fun v L' => v = .tuple #[vIn (melt13 a b).1, .bool (melt13 a b).2] ∧ L' = []) := by
  have hca : cok a.op a.c = true := ha.c
  have hcb : cok b.op b.c = true := hb.c
  have bca := cok_bd hca
  have bcb := cok_bd hcb
  have hm := mul_bd bca bcb
  refine Tri.of' 205 [vIn a, vIn b] [(0, vIn a), (1, vIn b)] Tryd.func14 Tryd.ntmps14 rfl rfl rfl ?_
  intro w0
  refine H.seq ?_
  refine H.region ?_
  refine HO.box rfl rfl (ltn rfl) ?_
  intro b2
  refine HO.box rfl rfl (ltn rfl) ?_
  intro b3
  refine HO.alloc ze26 rfl (ltn rfl) ?_
  intro b4
  refine HO.v (V.assign rfl) (ltn rfl) ?_
  refine HO.nil ?_
  refine HQ.next ?_
  refine H.seq ?_
  refine H.seq ?_
  refine H.region ?_
  refine HO.v (V.fieldAddr (fs := #[]) fa26_0 rfl) (ltn rfl) ?_
  refine HO.v (V.load sc3 rfl (by exact .mk (.there .here) rfl)) (ltn rfl) ?_
  refine HO.v (V.eqlI rfl rfl) (ltn rfl) ?_
  refine HO.v (V.move rfl) (ltn rfl) ?_
  refine HO.part (t := 12) rfl (fun g12 => ?_) (fun g12 => ?_)
  · skip
    try simp only [decide_eq_true_eq, decide_eq_false_iff_not, Bool.not_eq_true', Bool.not_eq_false'] at g12
    refine HO.gskip rfl rfl rfl rfl (ltn rfl) ?_
    refine HO.gskip rfl rfl rfl rfl (ltn rfl) ?_
    refine HO.gskip rfl rfl rfl rfl (ltn rfl) ?_
    refine HO.v (V.pickT rfl rfl) (ltn rfl) ?_
    refine HO.v (V.move rfl) (ltn rfl) ?_
    refine HO.gskip rfl rfl rfl rfl (ltn rfl) ?_
    refine HO.gskip rfl rfl rfl rfl (ltn rfl) ?_
    refine HO.gskip rfl rfl rfl rfl (ltn rfl) ?_
    refine HO.gskip rfl rfl rfl rfl (ltn rfl) ?_
    refine HO.gskip rfl rfl rfl rfl (ltn rfl) ?_
    refine HO.v (V.pickT rfl rfl) (ltn rfl) ?_
    refine HO.v (V.move rfl) (ltn rfl) ?_
    refine HO.gskip rfl rfl rfl rfl (ltn rfl) ?_
    refine HO.gskip rfl rfl rfl rfl (ltn rfl) ?_
    refine HO.gskip rfl rfl rfl rfl (ltn rfl) ?_
    refine HO.gskip rfl rfl rfl rfl (ltn rfl) ?_
    refine HO.gskip rfl rfl rfl rfl (ltn rfl) ?_
    refine HO.v (V.pickT rfl rfl) (ltn rfl) ?_
    refine HO.nil ?_
    refine HQ.keep (.cons (t := 2) rfl (.cons (t := 3) rfl (.cons (t := 4) rfl (.cons (t := 5) rfl (.cons (t := 30) rfl (.nil)))))) ?_
    refine HQ.next ?_
    refine H.condT rfl rfl ?_
    refine H.seq ?_
    refine H.region ?_
    refine HO.v (V.build ze26 pl26 rfl (.nil) (.nil)) (ltn rfl) ?_
    refine HO.store sz26 rfl rfl rfl rfl rfl (by exact .mk .here (by repeat constructor)) ?_
    refine HO.v (V.assign rfl) (ltn rfl) ?_
    refine HO.nil ?_
    refine HQ.next ?_
    refine H.ret ?_
    refine HQ.then_ret ?_
    refine HQ.end_ rfl rfl rfl rfl (.inl rfl) _ (fun a w s => resR2 Tryd.results14 s (.agg ag26 rfl (by exact .mk .here (by repeat constructor))) (.tmp rfl)) ?_
    refine ⟨_, _, .nil, ?_, rfl⟩
    unfold melt13; rw [if_pos (by omega)]; rfl
  · skip
    try simp only [decide_eq_true_eq, decide_eq_false_iff_not, Bool.not_eq_true', Bool.not_eq_false'] at g12
    refine HO.gdo rfl rfl rfl rfl ?_
    refine HO.v (V.fieldAddr (fs := #[]) fa26_0 rfl) (ltn rfl) ?_
    refine HO.gdo rfl rfl rfl rfl ?_
    refine HO.v (V.load sc3 rfl (by exact .mk (.there .here) rfl)) (ltn rfl) ?_
    refine HO.gdo rfl rfl rfl rfl ?_
    refine HO.v (V.eqlI rfl rfl) (ltn rfl) ?_
    refine HO.v (V.pickF rfl rfl) (ltn rfl) ?_
    refine HO.v (V.move rfl) (ltn rfl) ?_
    refine HO.part (t := 17) rfl (fun g17 => ?_) (fun g17 => ?_)
    · skip
      try simp only [decide_eq_true_eq, decide_eq_false_iff_not, Bool.not_eq_true', Bool.not_eq_false'] at g17
      refine HO.gskip rfl rfl rfl rfl (ltn rfl) ?_
      refine HO.gskip rfl rfl rfl rfl (ltn rfl) ?_
      refine HO.gskip rfl rfl rfl rfl (ltn rfl) ?_
      refine HO.gskip rfl rfl rfl rfl (ltn rfl) ?_
      refine HO.gskip rfl rfl rfl rfl (ltn rfl) ?_
      refine HO.v (V.pickT rfl rfl) (ltn rfl) ?_
      refine HO.v (V.move rfl) (ltn rfl) ?_
      refine HO.gskip rfl rfl rfl rfl (ltn rfl) ?_
      refine HO.gskip rfl rfl rfl rfl (ltn rfl) ?_
      refine HO.gskip rfl rfl rfl rfl (ltn rfl) ?_
      refine HO.gskip rfl rfl rfl rfl (ltn rfl) ?_
      refine HO.gskip rfl rfl rfl rfl (ltn rfl) ?_
      refine HO.v (V.pickT rfl rfl) (ltn rfl) ?_
      refine HO.nil ?_
      refine HQ.keep (.cons (t := 2) rfl (.cons (t := 3) rfl (.cons (t := 4) rfl (.cons (t := 5) rfl (.cons (t := 30) rfl (.nil)))))) ?_
      refine HQ.next ?_
      refine H.condT rfl rfl ?_
      refine H.seq ?_
      refine H.region ?_
      refine HO.v (V.build ze26 pl26 rfl (.nil) (.nil)) (ltn rfl) ?_
      refine HO.store sz26 rfl rfl rfl rfl rfl (by exact .mk .here (by repeat constructor)) ?_
      refine HO.v (V.assign rfl) (ltn rfl) ?_
      refine HO.nil ?_
      refine HQ.next ?_
      refine H.ret ?_
      refine HQ.then_ret ?_
      refine HQ.end_ rfl rfl rfl rfl (.inl rfl) _ (fun a w s => resR2 Tryd.results14 s (.agg ag26 rfl (by exact .mk .here (by repeat constructor))) (.tmp rfl)) ?_
      refine ⟨_, _, .nil, ?_, rfl⟩
      unfold melt13; rw [if_pos (by omega)]; rfl
    · skip
      try simp only [decide_eq_true_eq, decide_eq_false_iff_not, Bool.not_eq_true', Bool.not_eq_false'] at g17
      refine HO.gdo rfl rfl rfl rfl ?_
      refine HO.v (V.fieldAddr (fs := #[]) fa26_2 rfl) (ltn rfl) ?_
      refine HO.gdo rfl rfl rfl rfl ?_
      refine HO.v (V.load sc3 rfl (by exact .mk (.there .here) rfl)) (ltn rfl) ?_
      refine HO.gdo rfl rfl rfl rfl ?_
      refine HO.v (V.fieldAddr (fs := #[]) fa26_1 rfl) (ltn rfl) ?_
      refine HO.gdo rfl rfl rfl rfl ?_
      refine HO.v (V.load sc3 rfl (by exact .mk (.there (.there .here)) rfl)) (ltn rfl) ?_
      refine HO.gdo rfl rfl rfl rfl ?_
      refine HO.v (V.neqI rfl rfl) (ltn rfl) ?_
      refine HO.v (V.pickF rfl rfl) (ltn rfl) ?_
      refine HO.v (V.move rfl) (ltn rfl) ?_
      refine HO.part (t := 24) rfl (fun g24 => ?_) (fun g24 => ?_)
      · skip
        try simp only [decide_eq_true_eq, decide_eq_false_iff_not, Bool.not_eq_true', Bool.not_eq_false'] at g24
        refine HO.gskip rfl rfl rfl rfl (ltn rfl) ?_
        refine HO.gskip rfl rfl rfl rfl (ltn rfl) ?_
        refine HO.gskip rfl rfl rfl rfl (ltn rfl) ?_
        refine HO.gskip rfl rfl rfl rfl (ltn rfl) ?_
        refine HO.gskip rfl rfl rfl rfl (ltn rfl) ?_
        refine HO.v (V.pickT rfl rfl) (ltn rfl) ?_
        refine HO.nil ?_
        refine HQ.keep (.cons (t := 2) rfl (.cons (t := 3) rfl (.cons (t := 4) rfl (.cons (t := 5) rfl (.cons (t := 30) rfl (.nil)))))) ?_
        refine HQ.next ?_
        refine H.condT rfl rfl ?_
        refine H.seq ?_
        refine H.region ?_
        refine HO.v (V.build ze26 pl26 rfl (.nil) (.nil)) (ltn rfl) ?_
        refine HO.store sz26 rfl rfl rfl rfl rfl (by exact .mk .here (by repeat constructor)) ?_
        refine HO.v (V.assign rfl) (ltn rfl) ?_
        refine HO.nil ?_
        refine HQ.next ?_
        refine H.ret ?_
        refine HQ.then_ret ?_
        refine HQ.end_ rfl rfl rfl rfl (.inl rfl) _ (fun a w s => resR2 Tryd.results14 s (.agg ag26 rfl (by exact .mk .here (by repeat constructor))) (.tmp rfl)) ?_
        refine ⟨_, _, .nil, ?_, rfl⟩
        unfold melt13; rw [if_pos (by omega)]; rfl
      · skip
        try simp only [decide_eq_true_eq, decide_eq_false_iff_not, Bool.not_eq_true', Bool.not_eq_false'] at g24
        refine HO.gdo rfl rfl rfl rfl ?_
        refine HO.v (V.fieldAddr (fs := #[]) fa26_1 rfl) (ltn rfl) ?_
        refine HO.gdo rfl rfl rfl rfl ?_
        refine HO.v (V.load sc3 rfl (by exact .mk (.there .here) rfl)) (ltn rfl) ?_
        refine HO.gdo rfl rfl rfl rfl ?_
        refine HO.v (V.fieldAddr (fs := #[]) fa26_1 rfl) (ltn rfl) ?_
        refine HO.gdo rfl rfl rfl rfl ?_
        refine HO.v (V.load sc3 rfl (by exact .mk (.there (.there .here)) rfl)) (ltn rfl) ?_
        refine HO.gdo rfl rfl rfl rfl ?_
        refine HO.v (V.neqI rfl rfl) (ltn rfl) ?_
        refine HO.v (V.pickF rfl rfl) (ltn rfl) ?_
        refine HO.nil ?_
        refine HQ.keep (.cons (t := 2) rfl (.cons (t := 3) rfl (.cons (t := 4) rfl (.cons (t := 5) rfl (.cons (t := 30) rfl (.nil)))))) ?_
        refine HQ.next ?_
        refine H.condB rfl (fun h30 => ?_) (fun h30 => ?_)
        · skip
          try simp only [decide_eq_true_eq, decide_eq_false_iff_not, Bool.not_eq_true', Bool.not_eq_false'] at h30
          refine H.seq ?_
          refine H.region ?_
          refine HO.v (V.build ze26 pl26 rfl (.nil) (.nil)) (ltn rfl) ?_
          refine HO.store sz26 rfl rfl rfl rfl rfl (by exact .mk .here (by repeat constructor)) ?_
          refine HO.v (V.assign rfl) (ltn rfl) ?_
          refine HO.nil ?_
          refine HQ.next ?_
          refine H.ret ?_
          refine HQ.then_ret ?_
          refine HQ.end_ rfl rfl rfl rfl (.inl rfl) _ (fun a w s => resR2 Tryd.results14 s (.agg ag26 rfl (by exact .mk .here (by repeat constructor))) (.tmp rfl)) ?_
          refine ⟨_, _, .nil, ?_, rfl⟩
          unfold melt13; rw [if_pos (by omega)]; rfl
        · skip
          try simp only [decide_eq_true_eq, decide_eq_false_iff_not, Bool.not_eq_true', Bool.not_eq_false'] at h30
          refine H.skip ?_
          refine HQ.next ?_
          refine H.seq ?_
          refine H.region ?_
          refine HO.alloc ze26 rfl (ltn rfl) ?_
          intro b6
          refine HO.nil ?_
          refine HQ.next ?_
          refine H.seq ?_
          refine H.region ?_
          refine HO.v (V.assign rfl) (ltn rfl) ?_
          refine HO.nil ?_
          refine HQ.keep (.cons (t := 2) rfl (.cons (t := 3) rfl (.cons (t := 4) rfl (.cons (t := 5) rfl (.cons (t := 6) rfl (.cons (t := 7) rfl (.nil))))))) ?_
          refine HQ.next ?_
          refine H.cut (σ := Ins × Bool) (fun s => [(2, .pointer (some ⟨b2, 0, none⟩)), (3, .pointer (some ⟨b3, 0, none⟩)), (4, .pointer (some ⟨b4, 0, none⟩)), (6, .pointer (some ⟨b6, 0, none⟩)), (7, .bool s.2)]) (fun s => [cellsCh b6 26 [.int .i64 s.1.op, .int .i64 s.1.to, .int .i64 s.1.a, .int .i64 s.1.b, .int .i64 s.1.c], cellsCh b4 26 [.int .i64 0, .int .i64 0, .int .i64 0, .int .i64 0, .int .i64 0], cellsCh b3 26 [.int .i64 b.op, .int .i64 b.to, .int .i64 b.a, .int .i64 b.b, .int .i64 b.c], cellsCh b2 26 [.int .i64 a.op, .int .i64 a.to, .int .i64 a.a, .int .i64 a.b, .int .i64 a.c]]) (fun s => s = raw13 a b) ?_ ?_
          · skip
            refine H.seq ?_
            refine H.region ?_
            refine HO.v (V.fieldAddr (fs := #[]) fa26_0 rfl) (ltn rfl) ?_
            refine HO.v (V.load sc3 rfl (by exact .mk (.there (.there (.there .here))) rfl)) (ltn rfl) ?_
            refine HO.nil ?_
            refine HQ.keep (.cons (t := 2) rfl (.cons (t := 3) rfl (.cons (t := 4) rfl (.cons (t := 5) rfl (.cons (t := 6) rfl (.cons (t := 7) rfl (.cons (t := 33) rfl (.nil)))))))) ?_
            refine HQ.next ?_
            refine H.block ?_
            refine H.seq ?_
            refine H.region ?_
            refine HO.v (V.eqlI rfl rfl) (ltn rfl) ?_
            refine HO.v (V.assign rfl) (ltn rfl) ?_
            refine HO.nil ?_
            refine HQ.keep (.cons (t := 2) rfl (.cons (t := 3) rfl (.cons (t := 4) rfl (.cons (t := 5) rfl (.cons (t := 6) rfl (.cons (t := 7) rfl (.cons (t := 33) rfl (.cons (t := 34) rfl (.nil))))))))) ?_
            refine HQ.next ?_
            refine H.condB rfl (fun h34 => ?_) (fun h34 => ?_)
            · skip
              try simp only [decide_eq_true_eq, decide_eq_false_iff_not, Bool.not_eq_true', Bool.not_eq_false'] at h34
              refine H.seq ?_
              refine H.region ?_
              refine HO.v (V.loadA ag26 rfl (by exact .mk (.there (.there .here)) (by repeat constructor))) (ltn rfl) ?_
              refine HO.store sz26 rfl rfl rfl rfl rfl (by exact .mk .here (by repeat constructor)) ?_
              refine HO.v (V.assign rfl) (ltn rfl) ?_
              refine HO.nil ?_
              refine HQ.keep (.cons (t := 2) rfl (.cons (t := 3) rfl (.cons (t := 4) rfl (.cons (t := 5) rfl (.cons (t := 6) rfl (.cons (t := 7) rfl (.nil))))))) ?_
              refine HQ.next ?_
              refine H.region ?_
              refine HO.v (V.fieldAddr (fs := #[]) fa26_2 rfl) (ltn rfl) ?_
              refine HO.v (V.load sc3 rfl (by exact .mk (.there (.there (.there .here))) rfl)) (ltn rfl) ?_
              refine HO.v (V.fieldAddr (fs := #[]) fa26_2 rfl) (ltn rfl) ?_
              refine HO.store sz3 rfl rfl rfl rfl rfl (by exact .mk .here (by repeat constructor)) ?_
              refine HO.nil ?_
              refine HQ.block_normal ?_
              refine HQ.cut ((⟨b.op, b.to, a.a, b.b, b.c⟩, true)) ?_ ?_
              · unfold raw13; (repeat (first | rw [if_pos (by omega)] | rw [if_neg (by omega)])); first | done | rfl
              · skip
                exact HQ.fits (.cons rfl (.cons rfl (.cons rfl (.cons rfl (.cons rfl (.nil)))))) (by exact Rems.cons (by exact .here) (Rems.cons (by exact .here) (Rems.cons (by exact .here) (Rems.cons (by exact .here) (Rems.nil)))))
            · skip
              try simp only [decide_eq_true_eq, decide_eq_false_iff_not, Bool.not_eq_true', Bool.not_eq_false'] at h34
              refine H.seq ?_
              refine H.region ?_
              refine HO.v (V.eqlI rfl rfl) (ltn rfl) ?_
              refine HO.v (V.assign rfl) (ltn rfl) ?_
              refine HO.nil ?_
              refine HQ.keep (.cons (t := 2) rfl (.cons (t := 3) rfl (.cons (t := 4) rfl (.cons (t := 5) rfl (.cons (t := 6) rfl (.cons (t := 7) rfl (.cons (t := 33) rfl (.cons (t := 40) rfl (.nil))))))))) ?_
              refine HQ.next ?_
              refine H.condB rfl (fun h40 => ?_) (fun h40 => ?_)
              · skip
                try simp only [decide_eq_true_eq, decide_eq_false_iff_not, Bool.not_eq_true', Bool.not_eq_false'] at h40
                refine H.seq ?_
                refine H.region ?_
                refine HO.v (V.fieldAddr (fs := #[]) fa26_0 rfl) (ltn rfl) ?_
                refine HO.v (V.load sc3 rfl (by exact .mk (.there (.there .here)) rfl)) (ltn rfl) ?_
                refine HO.nil ?_
                refine HQ.keep (.cons (t := 2) rfl (.cons (t := 3) rfl (.cons (t := 4) rfl (.cons (t := 5) rfl (.cons (t := 6) rfl (.cons (t := 7) rfl (.cons (t := 43) rfl (.nil)))))))) ?_
                refine HQ.next ?_
                refine H.block ?_
                refine H.seq ?_
                refine H.region ?_
                refine HO.v (V.eqlI rfl rfl) (ltn rfl) ?_
                refine HO.v (V.assign rfl) (ltn rfl) ?_
                refine HO.nil ?_
                refine HQ.keep (.cons (t := 2) rfl (.cons (t := 3) rfl (.cons (t := 4) rfl (.cons (t := 5) rfl (.cons (t := 6) rfl (.cons (t := 7) rfl (.cons (t := 43) rfl (.cons (t := 44) rfl (.nil))))))))) ?_
                refine HQ.next ?_
                refine H.condB rfl (fun h44 => ?_) (fun h44 => ?_)
                · skip
                  try simp only [decide_eq_true_eq, decide_eq_false_iff_not, Bool.not_eq_true', Bool.not_eq_false'] at h44
                  refine H.region ?_
                  refine HO.v (V.loadA ag26 rfl (by exact .mk (.there (.there (.there .here))) (by repeat constructor))) (ltn rfl) ?_
                  refine HO.store sz26 rfl rfl rfl rfl rfl (by exact .mk .here (by repeat constructor)) ?_
                  refine HO.v (V.assign rfl) (ltn rfl) ?_
                  refine HO.nil ?_
                  refine HQ.block_normal ?_
                  refine HQ.block_normal ?_
                  refine HQ.cut ((a, true)) ?_ ?_
                  · unfold raw13; (repeat (first | rw [if_pos (by omega)] | rw [if_neg (by omega)])); first | done | rfl
                  · skip
                    exact HQ.fits (.cons rfl (.cons rfl (.cons rfl (.cons rfl (.cons rfl (.nil)))))) (by exact Rems.cons (by exact .here) (Rems.cons (by exact .here) (Rems.cons (by exact .here) (Rems.cons (by exact .here) (Rems.nil)))))
                · skip
                  try simp only [decide_eq_true_eq, decide_eq_false_iff_not, Bool.not_eq_true', Bool.not_eq_false'] at h44
                  refine H.seq ?_
                  refine H.region ?_
                  refine HO.v (V.eqlI rfl rfl) (ltn rfl) ?_
                  refine HO.v (V.assign rfl) (ltn rfl) ?_
                  refine HO.nil ?_
                  refine HQ.keep (.cons (t := 2) rfl (.cons (t := 3) rfl (.cons (t := 4) rfl (.cons (t := 5) rfl (.cons (t := 6) rfl (.cons (t := 7) rfl (.cons (t := 43) rfl (.cons (t := 47) rfl (.nil))))))))) ?_
                  refine HQ.next ?_
                  refine H.condB rfl (fun h47 => ?_) (fun h47 => ?_)
                  · skip
                    try simp only [decide_eq_true_eq, decide_eq_false_iff_not, Bool.not_eq_true', Bool.not_eq_false'] at h47
                    refine H.region ?_
                    refine HO.v (V.fieldAddr (fs := #[]) fa26_1 rfl) (ltn rfl) ?_
                    refine HO.v (V.load sc3 rfl (by exact .mk (.there (.there (.there .here))) rfl)) (ltn rfl) ?_
                    refine HO.v (V.fieldAddr (fs := #[]) fa26_2 rfl) (ltn rfl) ?_
                    refine HO.v (V.load sc3 rfl (by exact .mk (.there (.there (.there .here))) rfl)) (ltn rfl) ?_
                    refine HO.v (V.build ze26 pl26 rfl (.cons rfl (.cons rfl (.cons rfl (.nil)))) (.cons rfl rfl rfl (by repeat constructor) (.cons rfl rfl rfl (by repeat constructor) (.cons rfl rfl rfl (by repeat constructor) (.nil))))) (ltn rfl) ?_
                    refine HO.store sz26 rfl rfl rfl rfl rfl (by exact .mk .here (by repeat constructor)) ?_
                    refine HO.v (V.assign rfl) (ltn rfl) ?_
                    refine HO.nil ?_
                    refine HQ.block_normal ?_
                    refine HQ.block_normal ?_
                    refine HQ.cut ((⟨1, a.to, a.a, 0, 0⟩, true)) ?_ ?_
                    · unfold raw13; (repeat (first | rw [if_pos (by omega)] | rw [if_neg (by omega)])); first | done | rfl
                    · skip
                      exact HQ.fits (.cons rfl (.cons rfl (.cons rfl (.cons rfl (.cons rfl (.nil)))))) (by exact Rems.cons (by exact .here) (Rems.cons (by exact .here) (Rems.cons (by exact .here) (Rems.cons (by exact .here) (Rems.nil)))))
                  · skip
                    try simp only [decide_eq_true_eq, decide_eq_false_iff_not, Bool.not_eq_true', Bool.not_eq_false'] at h47
                    refine H.seq ?_
                    refine H.seq ?_
                    refine H.region ?_
                    refine HO.v (V.eqlI rfl rfl) (ltn rfl) ?_
                    refine HO.v (V.assign rfl) (ltn rfl) ?_
                    refine HO.nil ?_
                    refine HQ.keep (.cons (t := 2) rfl (.cons (t := 3) rfl (.cons (t := 4) rfl (.cons (t := 5) rfl (.cons (t := 6) rfl (.cons (t := 7) rfl (.cons (t := 43) rfl (.cons (t := 54) rfl (.nil))))))))) ?_
                    refine HQ.next ?_
                    refine H.condB rfl (fun h54 => ?_) (fun h54 => ?_)
                    · skip
                      try simp only [decide_eq_true_eq, decide_eq_false_iff_not, Bool.not_eq_true', Bool.not_eq_false'] at h54
                      refine H.skip ?_
                      refine HQ.keep (.cons (t := 2) rfl (.cons (t := 3) rfl (.cons (t := 4) rfl (.cons (t := 5) rfl (.cons (t := 6) rfl (.cons (t := 7) rfl (.cons (t := 54) rfl (.nil)))))))) ?_
                      refine HQ.next ?_
                      refine H.condT rfl (by first | exact h54 | simpa using h54) ?_
                      refine H.region ?_
                      refine HO.v (V.fieldAddr (fs := #[]) fa26_0 rfl) (ltn rfl) ?_
                      refine HO.v (V.load sc3 rfl (by exact .mk (.there (.there .here)) rfl)) (ltn rfl) ?_
                      refine HO.v (V.fieldAddr (fs := #[]) fa26_1 rfl) (ltn rfl) ?_
                      refine HO.v (V.load sc3 rfl (by exact .mk (.there (.there (.there .here))) rfl)) (ltn rfl) ?_
                      refine HO.v (V.fieldAddr (fs := #[]) fa26_2 rfl) (ltn rfl) ?_
                      refine HO.v (V.load sc3 rfl (by exact .mk (.there (.there (.there .here))) rfl)) (ltn rfl) ?_
                      refine HO.v (V.fieldAddr (fs := #[]) fa26_4 rfl) (ltn rfl) ?_
                      refine HO.v (V.load sc3 rfl (by exact .mk (.there (.there .here)) rfl)) (ltn rfl) ?_
                      refine HO.v (V.neg rfl (by omega)) (ltn rfl) ?_
                      refine HO.v (V.build ze26 pl26 rfl (.cons rfl (.cons rfl (.cons rfl (.cons rfl (.nil))))) (.cons rfl rfl rfl (by repeat constructor) (.cons rfl rfl rfl (by repeat constructor) (.cons rfl rfl rfl (by repeat constructor) (.cons rfl rfl rfl (by repeat constructor) (.nil)))))) (ltn rfl) ?_
                      refine HO.store sz26 rfl rfl rfl rfl rfl (by exact .mk .here (by repeat constructor)) ?_
                      refine HO.v (V.assign rfl) (ltn rfl) ?_
                      refine HO.nil ?_
                      refine HQ.block_normal ?_
                      refine HQ.block_normal ?_
                      refine HQ.cut ((⟨b.op, a.to, a.a, 0, -b.c⟩, true)) ?_ ?_
                      · unfold raw13; (repeat (first | rw [if_pos (by omega)] | rw [if_neg (by omega)])); first | done | rfl
                      · skip
                        exact HQ.fits (.cons rfl (.cons rfl (.cons rfl (.cons rfl (.cons rfl (.nil)))))) (by exact Rems.cons (by exact .here) (Rems.cons (by exact .here) (Rems.cons (by exact .here) (Rems.cons (by exact .here) (Rems.nil)))))
                    · skip
                      try simp only [decide_eq_true_eq, decide_eq_false_iff_not, Bool.not_eq_true', Bool.not_eq_false'] at h54
                      refine H.region ?_
                      refine HO.v (V.eqlI rfl rfl) (ltn rfl) ?_
                      refine HO.v (V.assign rfl) (ltn rfl) ?_
                      refine HO.nil ?_
                      refine HQ.keep (.cons (t := 2) rfl (.cons (t := 3) rfl (.cons (t := 4) rfl (.cons (t := 5) rfl (.cons (t := 6) rfl (.cons (t := 7) rfl (.cons (t := 54) rfl (.nil)))))))) ?_
                      refine HQ.next ?_
                      refine H.condB rfl (fun h54 => ?_) (fun h54 => ?_)
                      · skip
                        try simp only [decide_eq_true_eq, decide_eq_false_iff_not, Bool.not_eq_true', Bool.not_eq_false'] at h54
                        refine H.region ?_
                        refine HO.v (V.fieldAddr (fs := #[]) fa26_0 rfl) (ltn rfl) ?_
                        refine HO.v (V.load sc3 rfl (by exact .mk (.there (.there .here)) rfl)) (ltn rfl) ?_
                        refine HO.v (V.fieldAddr (fs := #[]) fa26_1 rfl) (ltn rfl) ?_
                        refine HO.v (V.load sc3 rfl (by exact .mk (.there (.there (.there .here))) rfl)) (ltn rfl) ?_
                        refine HO.v (V.fieldAddr (fs := #[]) fa26_2 rfl) (ltn rfl) ?_
                        refine HO.v (V.load sc3 rfl (by exact .mk (.there (.there (.there .here))) rfl)) (ltn rfl) ?_
                        refine HO.v (V.fieldAddr (fs := #[]) fa26_4 rfl) (ltn rfl) ?_
                        refine HO.v (V.load sc3 rfl (by exact .mk (.there (.there .here)) rfl)) (ltn rfl) ?_
                        refine HO.v (V.neg rfl (by omega)) (ltn rfl) ?_
                        refine HO.v (V.build ze26 pl26 rfl (.cons rfl (.cons rfl (.cons rfl (.cons rfl (.nil))))) (.cons rfl rfl rfl (by repeat constructor) (.cons rfl rfl rfl (by repeat constructor) (.cons rfl rfl rfl (by repeat constructor) (.cons rfl rfl rfl (by repeat constructor) (.nil)))))) (ltn rfl) ?_
                        refine HO.store sz26 rfl rfl rfl rfl rfl (by exact .mk .here (by repeat constructor)) ?_
                        refine HO.v (V.assign rfl) (ltn rfl) ?_
                        refine HO.nil ?_
                        refine HQ.block_normal ?_
                        refine HQ.block_normal ?_
                        refine HQ.cut ((⟨b.op, a.to, a.a, 0, -b.c⟩, true)) ?_ ?_
                        · unfold raw13; (repeat (first | rw [if_pos (by omega)] | rw [if_neg (by omega)])); first | done | rfl
                        · skip
                          exact HQ.fits (.cons rfl (.cons rfl (.cons rfl (.cons rfl (.cons rfl (.nil)))))) (by exact Rems.cons (by exact .here) (Rems.cons (by exact .here) (Rems.cons (by exact .here) (Rems.cons (by exact .here) (Rems.nil)))))
                      · skip
                        try simp only [decide_eq_true_eq, decide_eq_false_iff_not, Bool.not_eq_true', Bool.not_eq_false'] at h54
                        refine H.skip ?_
                        refine HQ.block_normal ?_
                        refine HQ.block_normal ?_
                        refine HQ.cut ((noIns, false)) ?_ ?_
                        · unfold raw13; (repeat (first | rw [if_pos (by omega)] | rw [if_neg (by omega)])); first | done | rfl
                        · skip
                          exact HQ.fits (.cons rfl (.cons rfl (.cons rfl (.cons rfl (.cons rfl (.nil)))))) (by exact Rems.cons (by exact .here) (Rems.cons (by exact .here) (Rems.cons (by exact .here) (Rems.cons (by exact .here) (Rems.nil)))))
              · skip
                try simp only [decide_eq_true_eq, decide_eq_false_iff_not, Bool.not_eq_true', Bool.not_eq_false'] at h40
                refine H.seq ?_
                refine H.region ?_
                refine HO.v (V.eqlI rfl rfl) (ltn rfl) ?_
                refine HO.v (V.assign rfl) (ltn rfl) ?_
                refine HO.nil ?_
                refine HQ.keep (.cons (t := 2) rfl (.cons (t := 3) rfl (.cons (t := 4) rfl (.cons (t := 5) rfl (.cons (t := 6) rfl (.cons (t := 7) rfl (.cons (t := 33) rfl (.cons (t := 67) rfl (.nil))))))))) ?_
                refine HQ.next ?_
                refine H.condB rfl (fun h67 => ?_) (fun h67 => ?_)
                · skip
                  try simp only [decide_eq_true_eq, decide_eq_false_iff_not, Bool.not_eq_true', Bool.not_eq_false'] at h67
                  refine H.seq ?_
                  refine H.region ?_
                  refine HO.v (V.fieldAddr (fs := #[]) fa26_0 rfl) (ltn rfl) ?_
                  refine HO.v (V.load sc3 rfl (by exact .mk (.there (.there .here)) rfl)) (ltn rfl) ?_
                  refine HO.nil ?_
                  refine HQ.keep (.cons (t := 2) rfl (.cons (t := 3) rfl (.cons (t := 4) rfl (.cons (t := 5) rfl (.cons (t := 6) rfl (.cons (t := 7) rfl (.cons (t := 70) rfl (.nil)))))))) ?_
                  refine HQ.next ?_
                  refine H.block ?_
                  refine H.seq ?_
                  refine H.region ?_
                  refine HO.v (V.eqlI rfl rfl) (ltn rfl) ?_
                  refine HO.v (V.assign rfl) (ltn rfl) ?_
                  refine HO.nil ?_
                  refine HQ.keep (.cons (t := 2) rfl (.cons (t := 3) rfl (.cons (t := 4) rfl (.cons (t := 5) rfl (.cons (t := 6) rfl (.cons (t := 7) rfl (.cons (t := 70) rfl (.cons (t := 71) rfl (.nil))))))))) ?_
                  refine HQ.next ?_
                  refine H.condB rfl (fun h71 => ?_) (fun h71 => ?_)
                  · skip
                    try simp only [decide_eq_true_eq, decide_eq_false_iff_not, Bool.not_eq_true', Bool.not_eq_false'] at h71
                    refine H.region ?_
                    refine HO.v (V.fieldAddr (fs := #[]) fa26_0 rfl) (ltn rfl) ?_
                    refine HO.v (V.load sc3 rfl (by exact .mk (.there (.there (.there .here))) rfl)) (ltn rfl) ?_
                    refine HO.v (V.fieldAddr (fs := #[]) fa26_1 rfl) (ltn rfl) ?_
                    refine HO.v (V.load sc3 rfl (by exact .mk (.there (.there (.there .here))) rfl)) (ltn rfl) ?_
                    refine HO.v (V.fieldAddr (fs := #[]) fa26_2 rfl) (ltn rfl) ?_
                    refine HO.v (V.load sc3 rfl (by exact .mk (.there (.there (.there .here))) rfl)) (ltn rfl) ?_
                    refine HO.v (V.fieldAddr (fs := #[]) fa26_4 rfl) (ltn rfl) ?_
                    refine HO.v (V.load sc3 rfl (by exact .mk (.there (.there (.there .here))) rfl)) (ltn rfl) ?_
                    refine HO.v (V.neg rfl (by omega)) (ltn rfl) ?_
                    refine HO.v (V.build ze26 pl26 rfl (.cons rfl (.cons rfl (.cons rfl (.cons rfl (.nil))))) (.cons rfl rfl rfl (by repeat constructor) (.cons rfl rfl rfl (by repeat constructor) (.cons rfl rfl rfl (by repeat constructor) (.cons rfl rfl rfl (by repeat constructor) (.nil)))))) (ltn rfl) ?_
                    refine HO.store sz26 rfl rfl rfl rfl rfl (by exact .mk .here (by repeat constructor)) ?_
                    refine HO.v (V.assign rfl) (ltn rfl) ?_
                    refine HO.nil ?_
                    refine HQ.block_normal ?_
                    refine HQ.block_normal ?_
                    refine HQ.cut ((⟨a.op, a.to, a.a, 0, -a.c⟩, true)) ?_ ?_
                    · unfold raw13; (repeat (first | rw [if_pos (by omega)] | rw [if_neg (by omega)])); first | done | rfl
                    · skip
                      exact HQ.fits (.cons rfl (.cons rfl (.cons rfl (.cons rfl (.cons rfl (.nil)))))) (by exact Rems.cons (by exact .here) (Rems.cons (by exact .here) (Rems.cons (by exact .here) (Rems.cons (by exact .here) (Rems.nil)))))
                  · skip
                    try simp only [decide_eq_true_eq, decide_eq_false_iff_not, Bool.not_eq_true', Bool.not_eq_false'] at h71
                    refine H.seq ?_
                    refine H.region ?_
                    refine HO.v (V.eqlI rfl rfl) (ltn rfl) ?_
                    refine HO.v (V.assign rfl) (ltn rfl) ?_
                    refine HO.nil ?_
                    refine HQ.keep (.cons (t := 2) rfl (.cons (t := 3) rfl (.cons (t := 4) rfl (.cons (t := 5) rfl (.cons (t := 6) rfl (.cons (t := 7) rfl (.cons (t := 70) rfl (.cons (t := 83) rfl (.nil))))))))) ?_
                    refine HQ.next ?_
                    refine H.condB rfl (fun h83 => ?_) (fun h83 => ?_)
                    · skip
                      try simp only [decide_eq_true_eq, decide_eq_false_iff_not, Bool.not_eq_true', Bool.not_eq_false'] at h83
                      refine H.region ?_
                      refine HO.v (V.fieldAddr (fs := #[]) fa26_1 rfl) (ltn rfl) ?_
                      refine HO.v (V.load sc3 rfl (by exact .mk (.there (.there (.there .here))) rfl)) (ltn rfl) ?_
                      refine HO.v (V.fieldAddr (fs := #[]) fa26_2 rfl) (ltn rfl) ?_
                      refine HO.v (V.load sc3 rfl (by exact .mk (.there (.there (.there .here))) rfl)) (ltn rfl) ?_
                      refine HO.v (V.fieldAddr (fs := #[]) fa26_4 rfl) (ltn rfl) ?_
                      refine HO.v (V.load sc3 rfl (by exact .mk (.there (.there (.there .here))) rfl)) (ltn rfl) ?_
                      refine HO.v (V.fieldAddr (fs := #[]) fa26_4 rfl) (ltn rfl) ?_
                      refine HO.v (V.load sc3 rfl (by exact .mk (.there (.there .here)) rfl)) (ltn rfl) ?_
                      refine HO.v (V.mul rfl rfl (by omega)) (ltn rfl) ?_
                      refine HO.call ca33 (.cons rfl (.cons rfl (.cons rfl (.cons rfl (.nil))))) (scaled13_w _ _ _ _ (by omega) (by omega) (Int.mul_ne_zero (cok_nz hca (.inl (by omega))) (cok_nz hcb (.inl (by omega)))) (by decide)) (by exact Rems.nil) (by exact Reads.nil) (ltn rfl) ?_
                      rintro v95 L95 ⟨rfl, rfl⟩
                      dsimp only [List.nil_append, List.cons_append]
                      refine HO.v (V.move rfl) (ltn rfl) ?_
                      refine HO.v (V.extract rfl rfl) (ltn rfl) ?_
                      refine HO.v (V.extract rfl rfl) (ltn rfl) ?_
                      refine HO.store sz26 rfl rfl rfl rfl rfl (by exact .mk .here (by repeat constructor)) ?_
                      refine HO.v (V.assign rfl) (ltn rfl) ?_
                      refine HO.nil ?_
                      refine HQ.block_normal ?_
                      refine HQ.block_normal ?_
                      refine HQ.cut (scaled a.to a.a (a.c * b.c) 1) ?_ ?_
                      · unfold raw13; (repeat (first | rw [if_pos (by omega)] | rw [if_neg (by omega)])); first | done | rfl
                      · skip
                        exact HQ.fits (.cons rfl (.cons rfl (.cons rfl (.cons rfl (.cons rfl (.nil)))))) (by exact Rems.cons (by exact .here) (Rems.cons (by exact .here) (Rems.cons (by exact .here) (Rems.cons (by exact .here) (Rems.nil)))))
                    · skip
                      try simp only [decide_eq_true_eq, decide_eq_false_iff_not, Bool.not_eq_true', Bool.not_eq_false'] at h83
                      refine H.seq ?_
                      refine H.region ?_
                      refine HO.v (V.eqlI rfl rfl) (ltn rfl) ?_
                      refine HO.v (V.assign rfl) (ltn rfl) ?_
                      refine HO.nil ?_
                      refine HQ.keep (.cons (t := 2) rfl (.cons (t := 3) rfl (.cons (t := 4) rfl (.cons (t := 5) rfl (.cons (t := 6) rfl (.cons (t := 7) rfl (.cons (t := 98) rfl (.nil)))))))) ?_
                      refine HQ.next ?_
                      refine H.condB rfl (fun h98 => ?_) (fun h98 => ?_)
                      · skip
                        try simp only [decide_eq_true_eq, decide_eq_false_iff_not, Bool.not_eq_true', Bool.not_eq_false'] at h98
                        refine H.region ?_
                        refine HO.v (V.fieldAddr (fs := #[]) fa26_1 rfl) (ltn rfl) ?_
                        refine HO.v (V.load sc3 rfl (by exact .mk (.there (.there (.there .here))) rfl)) (ltn rfl) ?_
                        refine HO.v (V.fieldAddr (fs := #[]) fa26_2 rfl) (ltn rfl) ?_
                        refine HO.v (V.load sc3 rfl (by exact .mk (.there (.there (.there .here))) rfl)) (ltn rfl) ?_
                        refine HO.v (V.fieldAddr (fs := #[]) fa26_4 rfl) (ltn rfl) ?_
                        refine HO.v (V.load sc3 rfl (by exact .mk (.there (.there (.there .here))) rfl)) (ltn rfl) ?_
                        refine HO.v (V.fieldAddr (fs := #[]) fa26_4 rfl) (ltn rfl) ?_
                        refine HO.v (V.load sc3 rfl (by exact .mk (.there (.there .here)) rfl)) (ltn rfl) ?_
                        refine HO.call ca33 (.cons rfl (.cons rfl (.cons rfl (.cons rfl (.nil))))) (scaled13_w _ _ _ _ (by omega) (by omega) (cok_nz hca (.inl (by omega))) (cok_nz hcb (.inr (by omega)))) (by exact Rems.nil) (by exact Reads.nil) (ltn rfl) ?_
                        rintro v109 L109 ⟨rfl, rfl⟩
                        dsimp only [List.nil_append, List.cons_append]
                        refine HO.v (V.move rfl) (ltn rfl) ?_
                        refine HO.v (V.extract rfl rfl) (ltn rfl) ?_
                        refine HO.v (V.extract rfl rfl) (ltn rfl) ?_
                        refine HO.store sz26 rfl rfl rfl rfl rfl (by exact .mk .here (by repeat constructor)) ?_
                        refine HO.v (V.assign rfl) (ltn rfl) ?_
                        refine HO.nil ?_
                        refine HQ.block_normal ?_
                        refine HQ.block_normal ?_
                        refine HQ.cut (scaled a.to a.a a.c b.c) ?_ ?_
                        · unfold raw13; (repeat (first | rw [if_pos (by omega)] | rw [if_neg (by omega)])); first | done | rfl
                        · skip
                          exact HQ.fits (.cons rfl (.cons rfl (.cons rfl (.cons rfl (.cons rfl (.nil)))))) (by exact Rems.cons (by exact .here) (Rems.cons (by exact .here) (Rems.cons (by exact .here) (Rems.cons (by exact .here) (Rems.nil)))))
                      · skip
                        try simp only [decide_eq_true_eq, decide_eq_false_iff_not, Bool.not_eq_true', Bool.not_eq_false'] at h98
                        refine H.skip ?_
                        refine HQ.block_normal ?_
                        refine HQ.block_normal ?_
                        refine HQ.cut ((noIns, false)) ?_ ?_
                        · unfold raw13; (repeat (first | rw [if_pos (by omega)] | rw [if_neg (by omega)])); first | done | rfl
                        · skip
                          exact HQ.fits (.cons rfl (.cons rfl (.cons rfl (.cons rfl (.cons rfl (.nil)))))) (by exact Rems.cons (by exact .here) (Rems.cons (by exact .here) (Rems.cons (by exact .here) (Rems.cons (by exact .here) (Rems.nil)))))
                · skip
                  try simp only [decide_eq_true_eq, decide_eq_false_iff_not, Bool.not_eq_true', Bool.not_eq_false'] at h67
                  refine H.seq ?_
                  refine H.region ?_
                  refine HO.v (V.eqlI rfl rfl) (ltn rfl) ?_
                  refine HO.v (V.assign rfl) (ltn rfl) ?_
                  refine HO.nil ?_
                  refine HQ.keep (.cons (t := 2) rfl (.cons (t := 3) rfl (.cons (t := 4) rfl (.cons (t := 5) rfl (.cons (t := 6) rfl (.cons (t := 7) rfl (.cons (t := 33) rfl (.cons (t := 112) rfl (.nil))))))))) ?_
                  refine HQ.next ?_
                  refine H.condB rfl (fun h112 => ?_) (fun h112 => ?_)
                  · skip
                    try simp only [decide_eq_true_eq, decide_eq_false_iff_not, Bool.not_eq_true', Bool.not_eq_false'] at h112
                    refine H.seq ?_
                    refine H.region ?_
                    refine HO.v (V.fieldAddr (fs := #[]) fa26_0 rfl) (ltn rfl) ?_
                    refine HO.v (V.load sc3 rfl (by exact .mk (.there (.there .here)) rfl)) (ltn rfl) ?_
                    refine HO.nil ?_
                    refine HQ.keep (.cons (t := 2) rfl (.cons (t := 3) rfl (.cons (t := 4) rfl (.cons (t := 5) rfl (.cons (t := 6) rfl (.cons (t := 7) rfl (.cons (t := 115) rfl (.nil)))))))) ?_
                    refine HQ.next ?_
                    refine H.block ?_
                    refine H.seq ?_
                    refine H.region ?_
                    refine HO.v (V.eqlI rfl rfl) (ltn rfl) ?_
                    refine HO.v (V.assign rfl) (ltn rfl) ?_
                    refine HO.nil ?_
                    refine HQ.keep (.cons (t := 2) rfl (.cons (t := 3) rfl (.cons (t := 4) rfl (.cons (t := 5) rfl (.cons (t := 6) rfl (.cons (t := 7) rfl (.cons (t := 115) rfl (.cons (t := 116) rfl (.nil))))))))) ?_
                    refine HQ.next ?_
                    refine H.condB rfl (fun h116 => ?_) (fun h116 => ?_)
                    · skip
                      try simp only [decide_eq_true_eq, decide_eq_false_iff_not, Bool.not_eq_true', Bool.not_eq_false'] at h116
                      refine H.region ?_
                      refine HO.v (V.fieldAddr (fs := #[]) fa26_0 rfl) (ltn rfl) ?_
                      refine HO.v (V.load sc3 rfl (by exact .mk (.there (.there (.there .here))) rfl)) (ltn rfl) ?_
                      refine HO.v (V.fieldAddr (fs := #[]) fa26_1 rfl) (ltn rfl) ?_
                      refine HO.v (V.load sc3 rfl (by exact .mk (.there (.there (.there .here))) rfl)) (ltn rfl) ?_
                      refine HO.v (V.fieldAddr (fs := #[]) fa26_2 rfl) (ltn rfl) ?_
                      refine HO.v (V.load sc3 rfl (by exact .mk (.there (.there (.there .here))) rfl)) (ltn rfl) ?_
                      refine HO.v (V.fieldAddr (fs := #[]) fa26_4 rfl) (ltn rfl) ?_
                      refine HO.v (V.load sc3 rfl (by exact .mk (.there (.there (.there .here))) rfl)) (ltn rfl) ?_
                      refine HO.v (V.neg rfl (by omega)) (ltn rfl) ?_
                      refine HO.v (V.build ze26 pl26 rfl (.cons rfl (.cons rfl (.cons rfl (.cons rfl (.nil))))) (.cons rfl rfl rfl (by repeat constructor) (.cons rfl rfl rfl (by repeat constructor) (.cons rfl rfl rfl (by repeat constructor) (.cons rfl rfl rfl (by repeat constructor) (.nil)))))) (ltn rfl) ?_
                      refine HO.store sz26 rfl rfl rfl rfl rfl (by exact .mk .here (by repeat constructor)) ?_
                      refine HO.v (V.assign rfl) (ltn rfl) ?_
                      refine HO.nil ?_
                      refine HQ.block_normal ?_
                      refine HQ.block_normal ?_
                      refine HQ.cut ((⟨a.op, a.to, a.a, 0, -a.c⟩, true)) ?_ ?_
                      · unfold raw13; (repeat (first | rw [if_pos (by omega)] | rw [if_neg (by omega)])); first | done | rfl
                      · skip
                        exact HQ.fits (.cons rfl (.cons rfl (.cons rfl (.cons rfl (.cons rfl (.nil)))))) (by exact Rems.cons (by exact .here) (Rems.cons (by exact .here) (Rems.cons (by exact .here) (Rems.cons (by exact .here) (Rems.nil)))))
                    · skip
                      try simp only [decide_eq_true_eq, decide_eq_false_iff_not, Bool.not_eq_true', Bool.not_eq_false'] at h116
                      refine H.seq ?_
                      refine H.region ?_
                      refine HO.v (V.eqlI rfl rfl) (ltn rfl) ?_
                      refine HO.v (V.assign rfl) (ltn rfl) ?_
                      refine HO.nil ?_
                      refine HQ.keep (.cons (t := 2) rfl (.cons (t := 3) rfl (.cons (t := 4) rfl (.cons (t := 5) rfl (.cons (t := 6) rfl (.cons (t := 7) rfl (.cons (t := 128) rfl (.nil)))))))) ?_
                      refine HQ.next ?_
                      refine H.condB rfl (fun h128 => ?_) (fun h128 => ?_)
                      · skip
                        try simp only [decide_eq_true_eq, decide_eq_false_iff_not, Bool.not_eq_true', Bool.not_eq_false'] at h128
                        refine H.seq ?_
                        refine H.region ?_
                        refine HO.v (V.fieldAddr (fs := #[]) fa26_4 rfl) (ltn rfl) ?_
                        refine HO.v (V.load sc3 rfl (by exact .mk (.there (.there (.there .here))) rfl)) (ltn rfl) ?_
                        refine HO.v (V.fieldAddr (fs := #[]) fa26_4 rfl) (ltn rfl) ?_
                        refine HO.v (V.load sc3 rfl (by exact .mk (.there (.there .here)) rfl)) (ltn rfl) ?_
                        refine HO.v (V.mul rfl rfl (by omega)) (ltn rfl) ?_
                        refine HO.v (V.assign rfl) (ltn rfl) ?_
                        refine HO.nil ?_
                        refine HQ.keep (.cons (t := 2) rfl (.cons (t := 3) rfl (.cons (t := 4) rfl (.cons (t := 5) rfl (.cons (t := 6) rfl (.cons (t := 7) rfl (.cons (t := 8) rfl (.nil)))))))) ?_
                        refine HQ.next ?_
                        refine H.seq ?_
                        refine H.region ?_
                        refine HO.v (V.move rfl) (ltn rfl) ?_
                        refine HO.v (V.geq rfl rfl) (ltn rfl) ?_
                        refine HO.v (V.move rfl) (ltn rfl) ?_
                        refine HO.part (t := 137) rfl (fun g137 => ?_) (fun g137 => ?_)
                        · skip
                          try simp only [decide_eq_true_eq, decide_eq_false_iff_not, Bool.not_eq_true', Bool.not_eq_false'] at g137
                          refine HO.gdo rfl rfl rfl rfl ?_
                          refine HO.v (V.move rfl) (ltn rfl) ?_
                          refine HO.gdo rfl rfl rfl rfl ?_
                          refine HO.v (V.leq rfl rfl) (ltn rfl) ?_
                          refine HO.v (V.pickT rfl rfl) (ltn rfl) ?_
                          refine HO.nil ?_
                          refine HQ.keep (.cons (t := 2) rfl (.cons (t := 3) rfl (.cons (t := 4) rfl (.cons (t := 5) rfl (.cons (t := 6) rfl (.cons (t := 7) rfl (.cons (t := 8) rfl (.cons (t := 140) rfl (.nil))))))))) ?_
                          refine HQ.next ?_
                          refine H.condB rfl (fun h140 => ?_) (fun h140 => ?_)
                          · skip
                            try simp only [decide_eq_true_eq, decide_eq_false_iff_not, Bool.not_eq_true', Bool.not_eq_false'] at h140
                            refine H.region ?_
                            refine HO.v (V.fieldAddr (fs := #[]) fa26_1 rfl) (ltn rfl) ?_
                            refine HO.v (V.load sc3 rfl (by exact .mk (.there (.there (.there .here))) rfl)) (ltn rfl) ?_
                            refine HO.v (V.fieldAddr (fs := #[]) fa26_2 rfl) (ltn rfl) ?_
                            refine HO.v (V.load sc3 rfl (by exact .mk (.there (.there (.there .here))) rfl)) (ltn rfl) ?_
                            refine HO.v (V.move rfl) (ltn rfl) ?_
                            refine HO.v (V.build ze26 pl26 rfl (.cons rfl (.cons rfl (.cons rfl (.cons rfl (.nil))))) (.cons rfl rfl rfl (by repeat constructor) (.cons rfl rfl rfl (by repeat constructor) (.cons rfl rfl rfl (by repeat constructor) (.cons rfl rfl rfl (by repeat constructor) (.nil)))))) (ltn rfl) ?_
                            refine HO.store sz26 rfl rfl rfl rfl rfl (by exact .mk .here (by repeat constructor)) ?_
                            refine HO.v (V.assign rfl) (ltn rfl) ?_
                            refine HO.nil ?_
                            refine HQ.block_normal ?_
                            refine HQ.block_normal ?_
                            refine HQ.cut ((⟨6, a.to, a.a, 0, a.c * b.c⟩, true)) ?_ ?_
                            · unfold raw13; (repeat (first | rw [if_pos (by omega)] | rw [if_neg (by omega)])); first | done | rfl
                            · skip
                              exact HQ.fits (.cons rfl (.cons rfl (.cons rfl (.cons rfl (.cons rfl (.nil)))))) (by exact Rems.cons (by exact .here) (Rems.cons (by exact .here) (Rems.cons (by exact .here) (Rems.cons (by exact .here) (Rems.nil)))))
                          · skip
                            try simp only [decide_eq_true_eq, decide_eq_false_iff_not, Bool.not_eq_true', Bool.not_eq_false'] at h140
                            refine H.skip ?_
                            refine HQ.block_normal ?_
                            refine HQ.block_normal ?_
                            refine HQ.cut ((noIns, false)) ?_ ?_
                            · unfold raw13; (repeat (first | rw [if_pos (by omega)] | rw [if_neg (by omega)])); first | done | rfl
                            · skip
                              exact HQ.fits (.cons rfl (.cons rfl (.cons rfl (.cons rfl (.cons rfl (.nil)))))) (by exact Rems.cons (by exact .here) (Rems.cons (by exact .here) (Rems.cons (by exact .here) (Rems.cons (by exact .here) (Rems.nil)))))
                        · skip
                          try simp only [decide_eq_true_eq, decide_eq_false_iff_not, Bool.not_eq_true', Bool.not_eq_false'] at g137
                          refine HO.gskip rfl rfl rfl rfl (ltn rfl) ?_
                          refine HO.gskip rfl rfl rfl rfl (ltn rfl) ?_
                          refine HO.v (V.pickF rfl rfl) (ltn rfl) ?_
                          refine HO.nil ?_
                          refine HQ.keep (.cons (t := 2) rfl (.cons (t := 3) rfl (.cons (t := 4) rfl (.cons (t := 5) rfl (.cons (t := 6) rfl (.cons (t := 7) rfl (.cons (t := 8) rfl (.cons (t := 140) rfl (.nil))))))))) ?_
                          refine HQ.next ?_
                          refine H.condF rfl rfl ?_
                          refine H.skip ?_
                          refine HQ.block_normal ?_
                          refine HQ.block_normal ?_
                          refine HQ.cut ((noIns, false)) ?_ ?_
                          · unfold raw13; (repeat (first | rw [if_pos (by omega)] | rw [if_neg (by omega)])); first | done | rfl
                          · skip
                            exact HQ.fits (.cons rfl (.cons rfl (.cons rfl (.cons rfl (.cons rfl (.nil)))))) (by exact Rems.cons (by exact .here) (Rems.cons (by exact .here) (Rems.cons (by exact .here) (Rems.cons (by exact .here) (Rems.nil)))))
                      · skip
                        try simp only [decide_eq_true_eq, decide_eq_false_iff_not, Bool.not_eq_true', Bool.not_eq_false'] at h128
                        refine H.skip ?_
                        refine HQ.block_normal ?_
                        refine HQ.block_normal ?_
                        refine HQ.cut ((noIns, false)) ?_ ?_
                        · unfold raw13; (repeat (first | rw [if_pos (by omega)] | rw [if_neg (by omega)])); first | done | rfl
                        · skip
                          exact HQ.fits (.cons rfl (.cons rfl (.cons rfl (.cons rfl (.cons rfl (.nil)))))) (by exact Rems.cons (by exact .here) (Rems.cons (by exact .here) (Rems.cons (by exact .here) (Rems.cons (by exact .here) (Rems.nil)))))
                  · skip
                    try simp only [decide_eq_true_eq, decide_eq_false_iff_not, Bool.not_eq_true', Bool.not_eq_false'] at h112
                    refine H.seq ?_
                    refine H.region ?_
                    refine HO.v (V.eqlI rfl rfl) (ltn rfl) ?_
                    refine HO.v (V.assign rfl) (ltn rfl) ?_
                    refine HO.nil ?_
                    refine HQ.keep (.cons (t := 2) rfl (.cons (t := 3) rfl (.cons (t := 4) rfl (.cons (t := 5) rfl (.cons (t := 6) rfl (.cons (t := 7) rfl (.cons (t := 33) rfl (.cons (t := 147) rfl (.nil))))))))) ?_
                    refine HQ.next ?_
                    refine H.condB rfl (fun h147 => ?_) (fun h147 => ?_)
                    · skip
                      try simp only [decide_eq_true_eq, decide_eq_false_iff_not, Bool.not_eq_true', Bool.not_eq_false'] at h147
                      refine H.seq ?_
                      refine H.region ?_
                      refine HO.v (V.fieldAddr (fs := #[]) fa26_0 rfl) (ltn rfl) ?_
                      refine HO.v (V.load sc3 rfl (by exact .mk (.there (.there .here)) rfl)) (ltn rfl) ?_
                      refine HO.nil ?_
                      refine HQ.keep (.cons (t := 2) rfl (.cons (t := 3) rfl (.cons (t := 4) rfl (.cons (t := 5) rfl (.cons (t := 6) rfl (.cons (t := 7) rfl (.cons (t := 150) rfl (.nil)))))))) ?_
                      refine HQ.next ?_
                      refine H.block ?_
                      refine H.seq ?_
                      refine H.region ?_
                      refine HO.v (V.eqlI rfl rfl) (ltn rfl) ?_
                      refine HO.v (V.assign rfl) (ltn rfl) ?_
                      refine HO.nil ?_
                      refine HQ.keep (.cons (t := 2) rfl (.cons (t := 3) rfl (.cons (t := 4) rfl (.cons (t := 5) rfl (.cons (t := 6) rfl (.cons (t := 7) rfl (.cons (t := 150) rfl (.cons (t := 151) rfl (.nil))))))))) ?_
                      refine HQ.next ?_
                      refine H.condB rfl (fun h151 => ?_) (fun h151 => ?_)
                      · skip
                        try simp only [decide_eq_true_eq, decide_eq_false_iff_not, Bool.not_eq_true', Bool.not_eq_false'] at h151
                        refine H.region ?_
                        refine HO.v (V.fieldAddr (fs := #[]) fa26_1 rfl) (ltn rfl) ?_
                        refine HO.v (V.load sc3 rfl (by exact .mk (.there (.there (.there .here))) rfl)) (ltn rfl) ?_
                        refine HO.v (V.fieldAddr (fs := #[]) fa26_2 rfl) (ltn rfl) ?_
                        refine HO.v (V.load sc3 rfl (by exact .mk (.there (.there (.there .here))) rfl)) (ltn rfl) ?_
                        refine HO.v (V.fieldAddr (fs := #[]) fa26_4 rfl) (ltn rfl) ?_
                        refine HO.v (V.load sc3 rfl (by exact .mk (.there (.there (.there .here))) rfl)) (ltn rfl) ?_
                        refine HO.v (V.fieldAddr (fs := #[]) fa26_4 rfl) (ltn rfl) ?_
                        refine HO.v (V.load sc3 rfl (by exact .mk (.there (.there .here)) rfl)) (ltn rfl) ?_
                        refine HO.v (V.add rfl rfl (by omega)) (ltn rfl) ?_
                        refine HO.call ca34 (.cons rfl (.cons rfl (.cons rfl (.nil)))) (shifted13_w _ _ _ (by omega)) (by exact Rems.nil) (by exact Reads.nil) (ltn rfl) ?_
                        rintro v163 L163 ⟨rfl, rfl⟩
                        dsimp only [List.nil_append, List.cons_append]
                        refine HO.v (V.move rfl) (ltn rfl) ?_
                        refine HO.v (V.extract rfl rfl) (ltn rfl) ?_
                        refine HO.v (V.extract rfl rfl) (ltn rfl) ?_
                        refine HO.store sz26 rfl rfl rfl rfl rfl (by exact .mk .here (by repeat constructor)) ?_
                        refine HO.v (V.assign rfl) (ltn rfl) ?_
                        refine HO.nil ?_
                        refine HQ.block_normal ?_
                        refine HQ.block_normal ?_
                        refine HQ.cut (shifted a.to a.a (a.c + b.c)) ?_ ?_
                        · unfold raw13; (repeat (first | rw [if_pos (by omega)] | rw [if_neg (by omega)])); first | done | rfl
                        · skip
                          exact HQ.fits (.cons rfl (.cons rfl (.cons rfl (.cons rfl (.cons rfl (.nil)))))) (by exact Rems.cons (by exact .here) (Rems.cons (by exact .here) (Rems.cons (by exact .here) (Rems.cons (by exact .here) (Rems.nil)))))
                      · skip
                        try simp only [decide_eq_true_eq, decide_eq_false_iff_not, Bool.not_eq_true', Bool.not_eq_false'] at h151
                        refine H.seq ?_
                        refine H.region ?_
                        refine HO.v (V.eqlI rfl rfl) (ltn rfl) ?_
                        refine HO.v (V.assign rfl) (ltn rfl) ?_
                        refine HO.nil ?_
                        refine HQ.keep (.cons (t := 2) rfl (.cons (t := 3) rfl (.cons (t := 4) rfl (.cons (t := 5) rfl (.cons (t := 6) rfl (.cons (t := 7) rfl (.cons (t := 166) rfl (.nil)))))))) ?_
                        refine HQ.next ?_
                        refine H.condB rfl (fun h166 => ?_) (fun h166 => ?_)
                        · skip
                          try simp only [decide_eq_true_eq, decide_eq_false_iff_not, Bool.not_eq_true', Bool.not_eq_false'] at h166
                          refine H.region ?_
                          refine HO.v (V.fieldAddr (fs := #[]) fa26_1 rfl) (ltn rfl) ?_
                          refine HO.v (V.load sc3 rfl (by exact .mk (.there (.there (.there .here))) rfl)) (ltn rfl) ?_
                          refine HO.v (V.fieldAddr (fs := #[]) fa26_2 rfl) (ltn rfl) ?_
                          refine HO.v (V.load sc3 rfl (by exact .mk (.there (.there (.there .here))) rfl)) (ltn rfl) ?_
                          refine HO.v (V.fieldAddr (fs := #[]) fa26_4 rfl) (ltn rfl) ?_
                          refine HO.v (V.load sc3 rfl (by exact .mk (.there (.there (.there .here))) rfl)) (ltn rfl) ?_
                          refine HO.v (V.fieldAddr (fs := #[]) fa26_4 rfl) (ltn rfl) ?_
                          refine HO.v (V.load sc3 rfl (by exact .mk (.there (.there .here)) rfl)) (ltn rfl) ?_
                          refine HO.v (V.sub rfl rfl (by omega)) (ltn rfl) ?_
                          refine HO.call ca34 (.cons rfl (.cons rfl (.cons rfl (.nil)))) (shifted13_w _ _ _ (by omega)) (by exact Rems.nil) (by exact Reads.nil) (ltn rfl) ?_
                          rintro v178 L178 ⟨rfl, rfl⟩
                          dsimp only [List.nil_append, List.cons_append]
                          refine HO.v (V.move rfl) (ltn rfl) ?_
                          refine HO.v (V.extract rfl rfl) (ltn rfl) ?_
                          refine HO.v (V.extract rfl rfl) (ltn rfl) ?_
                          refine HO.store sz26 rfl rfl rfl rfl rfl (by exact .mk .here (by repeat constructor)) ?_
                          refine HO.v (V.assign rfl) (ltn rfl) ?_
                          refine HO.nil ?_
                          refine HQ.block_normal ?_
                          refine HQ.block_normal ?_
                          refine HQ.cut (shifted a.to a.a (a.c - b.c)) ?_ ?_
                          · unfold raw13; (repeat (first | rw [if_pos (by omega)] | rw [if_neg (by omega)])); first | done | rfl
                          · skip
                            exact HQ.fits (.cons rfl (.cons rfl (.cons rfl (.cons rfl (.cons rfl (.nil)))))) (by exact Rems.cons (by exact .here) (Rems.cons (by exact .here) (Rems.cons (by exact .here) (Rems.cons (by exact .here) (Rems.nil)))))
                        · skip
                          try simp only [decide_eq_true_eq, decide_eq_false_iff_not, Bool.not_eq_true', Bool.not_eq_false'] at h166
                          refine H.skip ?_
                          refine HQ.block_normal ?_
                          refine HQ.block_normal ?_
                          refine HQ.cut ((noIns, false)) ?_ ?_
                          · unfold raw13; (repeat (first | rw [if_pos (by omega)] | rw [if_neg (by omega)])); first | done | rfl
                          · skip
                            exact HQ.fits (.cons rfl (.cons rfl (.cons rfl (.cons rfl (.cons rfl (.nil)))))) (by exact Rems.cons (by exact .here) (Rems.cons (by exact .here) (Rems.cons (by exact .here) (Rems.cons (by exact .here) (Rems.nil)))))
                    · skip
                      try simp only [decide_eq_true_eq, decide_eq_false_iff_not, Bool.not_eq_true', Bool.not_eq_false'] at h147
                      refine H.seq ?_
                      refine H.region ?_
                      refine HO.v (V.eqlI rfl rfl) (ltn rfl) ?_
                      refine HO.v (V.assign rfl) (ltn rfl) ?_
                      refine HO.nil ?_
                      refine HQ.keep (.cons (t := 2) rfl (.cons (t := 3) rfl (.cons (t := 4) rfl (.cons (t := 5) rfl (.cons (t := 6) rfl (.cons (t := 7) rfl (.cons (t := 181) rfl (.nil)))))))) ?_
                      refine HQ.next ?_
                      refine H.condB rfl (fun h181 => ?_) (fun h181 => ?_)
                      · skip
                        try simp only [decide_eq_true_eq, decide_eq_false_iff_not, Bool.not_eq_true', Bool.not_eq_false'] at h181
                        refine H.seq ?_
                        refine H.region ?_
                        refine HO.v (V.fieldAddr (fs := #[]) fa26_0 rfl) (ltn rfl) ?_
                        refine HO.v (V.load sc3 rfl (by exact .mk (.there (.there .here)) rfl)) (ltn rfl) ?_
                        refine HO.v (V.eqlI rfl rfl) (ltn rfl) ?_
                        refine HO.nil ?_
                        refine HQ.keep (.cons (t := 2) rfl (.cons (t := 3) rfl (.cons (t := 4) rfl (.cons (t := 5) rfl (.cons (t := 6) rfl (.cons (t := 7) rfl (.cons (t := 185) rfl (.nil)))))))) ?_
                        refine HQ.next ?_
                        refine H.condB rfl (fun h185 => ?_) (fun h185 => ?_)
                        · skip
                          try simp only [decide_eq_true_eq, decide_eq_false_iff_not, Bool.not_eq_true', Bool.not_eq_false'] at h185
                          refine H.region ?_
                          refine HO.v (V.fieldAddr (fs := #[]) fa26_1 rfl) (ltn rfl) ?_
                          refine HO.v (V.load sc3 rfl (by exact .mk (.there (.there (.there .here))) rfl)) (ltn rfl) ?_
                          refine HO.v (V.fieldAddr (fs := #[]) fa26_2 rfl) (ltn rfl) ?_
                          refine HO.v (V.load sc3 rfl (by exact .mk (.there (.there (.there .here))) rfl)) (ltn rfl) ?_
                          refine HO.v (V.fieldAddr (fs := #[]) fa26_4 rfl) (ltn rfl) ?_
                          refine HO.v (V.load sc3 rfl (by exact .mk (.there (.there (.there .here))) rfl)) (ltn rfl) ?_
                          refine HO.v (V.neg rfl (by omega)) (ltn rfl) ?_
                          refine HO.v (V.fieldAddr (fs := #[]) fa26_4 rfl) (ltn rfl) ?_
                          refine HO.v (V.load sc3 rfl (by exact .mk (.there (.there .here)) rfl)) (ltn rfl) ?_
                          refine HO.v (V.sub rfl rfl (by omega)) (ltn rfl) ?_
                          refine HO.call ca34 (.cons rfl (.cons rfl (.cons rfl (.nil)))) (shifted13_w _ _ _ (by omega)) (by exact Rems.nil) (by exact Reads.nil) (ltn rfl) ?_
                          rintro v197 L197 ⟨rfl, rfl⟩
                          dsimp only [List.nil_append, List.cons_append]
                          refine HO.v (V.move rfl) (ltn rfl) ?_
                          refine HO.v (V.extract rfl rfl) (ltn rfl) ?_
                          refine HO.v (V.extract rfl rfl) (ltn rfl) ?_
                          refine HO.store sz26 rfl rfl rfl rfl rfl (by exact .mk .here (by repeat constructor)) ?_
                          refine HO.v (V.assign rfl) (ltn rfl) ?_
                          refine HO.nil ?_
                          refine HQ.block_normal ?_
                          refine HQ.cut (shifted a.to a.a (-a.c - b.c)) ?_ ?_
                          · unfold raw13; (repeat (first | rw [if_pos (by omega)] | rw [if_neg (by omega)])); first | done | rfl
                          · skip
                            exact HQ.fits (.cons rfl (.cons rfl (.cons rfl (.cons rfl (.cons rfl (.nil)))))) (by exact Rems.cons (by exact .here) (Rems.cons (by exact .here) (Rems.cons (by exact .here) (Rems.cons (by exact .here) (Rems.nil)))))
                        · skip
                          try simp only [decide_eq_true_eq, decide_eq_false_iff_not, Bool.not_eq_true', Bool.not_eq_false'] at h185
                          refine H.skip ?_
                          refine HQ.block_normal ?_
                          refine HQ.cut ((noIns, false)) ?_ ?_
                          · unfold raw13; (repeat (first | rw [if_pos (by omega)] | rw [if_neg (by omega)])); first | done | rfl
                          · skip
                            exact HQ.fits (.cons rfl (.cons rfl (.cons rfl (.cons rfl (.cons rfl (.nil)))))) (by exact Rems.cons (by exact .here) (Rems.cons (by exact .here) (Rems.cons (by exact .here) (Rems.cons (by exact .here) (Rems.nil)))))
                      · skip
                        try simp only [decide_eq_true_eq, decide_eq_false_iff_not, Bool.not_eq_true', Bool.not_eq_false'] at h181
                        refine H.skip ?_
                        refine HQ.block_normal ?_
                        refine HQ.cut ((noIns, false)) ?_ ?_
                        · unfold raw13; (repeat (first | rw [if_pos (by omega)] | rw [if_neg (by omega)])); first | done | rfl
                        · skip
                          exact HQ.fits (.cons rfl (.cons rfl (.cons rfl (.cons rfl (.cons rfl (.nil)))))) (by exact Rems.cons (by exact .here) (Rems.cons (by exact .here) (Rems.cons (by exact .here) (Rems.cons (by exact .here) (Rems.nil)))))
          rintro s hr
          refine H.seq ?_
          refine H.seq ?_
          refine H.region ?_
          refine HO.v (V.move rfl) (ltn rfl) ?_
          refine HO.v (V.not rfl) (ltn rfl) ?_
          refine HO.nil ?_
          refine HQ.keep (.cons (t := 4) rfl (.cons (t := 6) rfl (.cons (t := 201) rfl (.nil)))) ?_
          refine HQ.next ?_
          refine H.condB rfl (fun h201 => ?_) (fun h201 => ?_)
          · skip
            try simp only [decide_eq_true_eq, decide_eq_false_iff_not, Bool.not_eq_true', Bool.not_eq_false'] at h201
            refine H.seq ?_
            refine H.region ?_
            refine HO.v (V.build ze26 pl26 rfl (.nil) (.nil)) (ltn rfl) ?_
            refine HO.store sz26 rfl rfl rfl rfl rfl (by exact .mk (.there .here) (by repeat constructor)) ?_
            refine HO.v (V.assign rfl) (ltn rfl) ?_
            refine HO.nil ?_
            refine HQ.next ?_
            refine H.ret ?_
            refine HQ.then_ret ?_
            refine HQ.end_ rfl rfl rfl rfl (.inl rfl) _ (fun a w s => resR2 Tryd.results14 s (.agg ag26 rfl (by exact .mk .here (by repeat constructor))) (.tmp rfl)) ?_
            refine ⟨_, _, .nil, ?_, rfl⟩
            unfold melt13; rw [if_neg (by omega), ← hr]
            first | (rw [if_pos (by assumption)]; done) | (rw [if_neg (by simp_all)]; done) | (rw [if_pos (by simp_all)]; done) | (rw [if_pos (by simp_all)]; rfl) | (rw [if_neg (by simp_all)]; rfl)
          · skip
            try simp only [decide_eq_true_eq, decide_eq_false_iff_not, Bool.not_eq_true', Bool.not_eq_false'] at h201
            refine H.skip ?_
            refine HQ.next ?_
            refine H.seq ?_
            refine H.region ?_
            refine HO.v (V.loadA ag26 rfl (by exact .mk .here (by repeat constructor))) (ltn rfl) ?_
            refine HO.call ca12 (.cons rfl (.nil)) (plain13_w _ (by have hk := raw13_ok ha hb (by omega) (by rw [← hr]; assumption); rw [← hr] at hk; exact cok_bd (op := s.1.op) hk.c)) (by exact Rems.nil) (by exact Reads.nil) (ltn rfl) ?_
            rintro v204 L204 ⟨rfl, rfl⟩
            dsimp only [List.nil_append, List.cons_append]
            refine HO.store sz26 rfl rfl rfl rfl rfl (by exact .mk (.there .here) (by repeat constructor)) ?_
            refine HO.v (V.assign rfl) (ltn rfl) ?_
            refine HO.nil ?_
            refine HQ.next ?_
            refine H.ret ?_
            refine HQ.end_ rfl rfl rfl rfl (.inl rfl) _ (fun a w s => resR2 Tryd.results14 s (.agg ag26 rfl (by exact .mk .here (by repeat constructor))) (.tmp rfl)) ?_
            refine ⟨_, _, .nil, ?_, rfl⟩
            unfold melt13; rw [if_neg (by omega), ← hr]
            first | (rw [if_pos (by assumption)]; done) | (rw [if_neg (by simp_all)]; done) | (rw [if_pos (by simp_all)]; done) | (rw [if_pos (by simp_all)]; rfl) | (rw [if_neg (by simp_all)]; rfl)

end Go.Proofs.YtmkoadgphhkfgaaDoor
