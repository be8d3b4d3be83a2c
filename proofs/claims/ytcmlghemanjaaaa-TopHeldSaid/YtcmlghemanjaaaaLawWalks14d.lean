/- Walks of the law of values: the document's examples, the law. Conditions: as the theorems say. -/
import Derived.Test.YtcmlghemanjaaaaLawWalks14c
set_option linter.unusedVariables false
set_option linter.unusedSimpArgs false
set_option maxRecDepth 10000
namespace Go.Proofs.Ytcmlghemanjaaaa
open Go Go.RowKit Sl Pg

set_option maxRecDepth 100000
theorem ca13 : Callable Go.Proofs.Try.prog 13 := by unfold Callable; kernel_rfl
theorem ca4 : Callable Go.Proofs.Try.prog 4 := by unfold Callable; kernel_rfl
theorem ca5 : Callable Go.Proofs.Try.prog 5 := by unfold Callable; kernel_rfl
theorem ca6 : Callable Go.Proofs.Try.prog 6 := by unfold Callable; kernel_rfl
set_option maxRecDepth 10000

set_option maxHeartbeats 4000000 in
theorem knows14_w  :
    Tri Try.prog 6 #[] [] [] (fun v L' => v = .bool true ∧ L' = []) := by
  refine Tri.of' 157 [] [] Try.func6 Try.ntmps6 rfl rfl rfl ?_
  intro w0
  refine H.seq ?_
  refine H.region ?_
  refine HO.v (V.assign rfl) (ltn rfl) ?_
  refine HO.nil ?_
  refine HQ.next ?_
  refine H.seq ?_
  refine H.region ?_
  refine HO.v (V.assign rfl) (ltn rfl) ?_
  refine HO.nil ?_
  refine HQ.next ?_
  refine H.seq ?_
  refine H.region ?_
  refine HO.v (V.move rfl) (ltn rfl) ?_
  refine HO.callV ca13 rfl (.cons rfl (.cons rfl (.cons rfl (.nil)))) (add14_w _ _ _) (by exact Rems.nil) (by exact Reads.nil) (fun _ e => by cases e; exact (ltn rfl)) ?_
  rintro v19 L19 ⟨rfl, rfl⟩
  dsimp only [List.nil_append, List.cons_append]
  refine HO.v (V.move rfl) (ltn rfl) ?_
  refine HO.callV ca13 rfl (.cons rfl (.cons rfl (.cons rfl (.nil)))) (add14_w _ _ _) (by exact Rems.nil) (by exact Reads.nil) (fun _ e => by cases e; exact (ltn rfl)) ?_
  rintro v21 L21 ⟨rfl, rfl⟩
  dsimp only [List.nil_append, List.cons_append]
  refine HO.v (V.build ze50 pl50 rfl (.cons rfl (.cons rfl (.cons rfl (.cons rfl (.nil))))) (.cons rfl rfl rfl (by repeat constructor) (.cons rfl rfl rfl (by repeat constructor) (.cons rfl rfl rfl (by repeat constructor) (.cons rfl rfl rfl (by repeat constructor) (.nil)))))) (ltn rfl) ?_
  refine HO.buildRow encIn (kp.code) Try.underlying26 ze50 (.cons rfl (.cons rfl (.cons rfl (.nil)))) (.cons rfl (.cons rfl (.cons rfl (.nil)))) (Nat.le_of_ble_eq_true rfl) (Nat.le_of_ble_eq_true rfl) (ltn rfl) ?_
  intro b23
  refine HO.buildRow (encI .i64) (kp.outs) Try.underlying27 ze3 (.cons rfl (.cons rfl (.nil))) (.cons rfl (.cons rfl (.nil))) (Nat.le_of_ble_eq_true rfl) (Nat.le_of_ble_eq_true rfl) (ltn rfl) ?_
  intro b24
  refine HO.v (V.build ze29 pl29 rfl (.cons rfl (.cons rfl (.cons rfl (.cons rfl (.nil))))) (.cons rfl rfl rfl (by repeat constructor) (.cons rfl rfl rfl (by repeat constructor) (.cons rfl rfl rfl (by repeat constructor) (.cons rfl rfl rfl (by repeat constructor) (.nil)))))) (ltn rfl) ?_
  refine HO.alloc ze29 rfl (ltn rfl) ?_
  intro b2
  refine HO.store sz29 rfl rfl rfl rfl rfl (by exact .mk .here (by repeat constructor)) ?_
  refine HO.nil ?_
  refine HQ.keep (.cons (t := 0) rfl (.cons (t := 1) rfl (.cons (t := 2) rfl (.nil)))) ?_
  refine HQ.next ?_
  refine H.seq ?_
  refine H.region ?_
  refine HO.v (V.move rfl) (ltn rfl) ?_
  refine HO.callV ca13 rfl (.cons rfl (.cons rfl (.cons rfl (.nil)))) (add14_w _ _ _) (by exact Rems.nil) (by exact Reads.nil) (fun _ e => by cases e; exact (ltn rfl)) ?_
  rintro v27 L27 ⟨rfl, rfl⟩
  dsimp only [List.nil_append, List.cons_append]
  refine HO.v (V.build ze50 pl50 rfl (.cons rfl (.cons rfl (.cons rfl (.nil)))) (.cons rfl rfl rfl (by repeat constructor) (.cons rfl rfl rfl (by repeat constructor) (.cons rfl rfl rfl (by repeat constructor) (.nil))))) (ltn rfl) ?_
  refine HO.buildRow encIn (kq.code) Try.underlying26 ze50 (.cons rfl (.cons rfl (.nil))) (.cons rfl (.cons rfl (.nil))) (Nat.le_of_ble_eq_true rfl) (Nat.le_of_ble_eq_true rfl) (ltn rfl) ?_
  intro b29
  refine HO.buildRow (encI .i64) (kq.outs) Try.underlying27 ze3 (.cons rfl (.nil)) (.cons rfl (.nil)) (Nat.le_of_ble_eq_true rfl) (Nat.le_of_ble_eq_true rfl) (ltn rfl) ?_
  intro b30
  refine HO.v (V.build ze29 pl29 rfl (.cons rfl (.cons rfl (.cons rfl (.cons rfl (.nil))))) (.cons rfl rfl rfl (by repeat constructor) (.cons rfl rfl rfl (by repeat constructor) (.cons rfl rfl rfl (by repeat constructor) (.cons rfl rfl rfl (by repeat constructor) (.nil)))))) (ltn rfl) ?_
  refine HO.alloc ze29 rfl (ltn rfl) ?_
  intro b3
  refine HO.store sz29 rfl rfl rfl rfl rfl (by exact .mk .here (by repeat constructor)) ?_
  refine HO.nil ?_
  refine HQ.keep (.cons (t := 0) rfl (.cons (t := 1) rfl (.cons (t := 2) rfl (.cons (t := 3) rfl (.nil))))) ?_
  refine HQ.next ?_
  refine H.seq ?_
  refine H.region ?_
  refine HO.v (V.loadA ag29 rfl (by exact .mk (.there (.there (.there .here))) (by repeat constructor))) (ltn rfl) ?_
  refine HO.call ca10 (.cons rfl (.nil)) (sharePass_w kp _ _ _ _ kp_right) (by exact Rems.nil) (by (refine Reads.row (.tail _ (.tail _ (.tail _ (.tail _ (.tail _ (.head _)))))) ?_); (refine Reads.row (.tail _ (.tail _ (.tail _ (.tail _ (.head _))))) ?_); exact Reads.nil) (ltn rfl) ?_
  rintro v34 L34 ⟨C34, k34, D34, j34, rfl, rfl⟩
  rw [kp_pass]
  dsimp only [List.nil_append, List.cons_append]
  refine HO.v (V.move rfl) (ltn rfl) ?_
  refine HO.v (V.extract rfl rfl) (ltn rfl) ?_
  refine HO.v (V.extract rfl rfl) (ltn rfl) ?_
  refine HO.alloc ze29 rfl (ltn rfl) ?_
  intro b4
  refine HO.store sz29 rfl rfl rfl rfl rfl (by exact .mk .here (by repeat constructor)) ?_
  refine HO.v (V.assign rfl) (ltn rfl) ?_
  refine HO.nil ?_
  refine HQ.keep (.cons (t := 0) rfl (.cons (t := 1) rfl (.cons (t := 2) rfl (.cons (t := 3) rfl (.cons (t := 4) rfl (.cons (t := 5) rfl (.nil))))))) ?_
  refine HQ.next ?_
  refine H.seq ?_
  refine H.region ?_
  refine HO.v (V.loadA ag29 rfl (by exact .mk (.there (.there (.there .here))) (by repeat constructor))) (ltn rfl) ?_
  refine HO.call ca10 (.cons rfl (.nil)) (sharePass_w kq _ _ _ _ kq_right) (by exact Rems.nil) (by (refine Reads.row (.tail _ (.tail _ (.tail _ (.tail _ (.tail _ (.head _)))))) ?_); (refine Reads.row (.tail _ (.tail _ (.tail _ (.tail _ (.head _))))) ?_); exact Reads.nil) (ltn rfl) ?_
  rintro v39 L39 ⟨C39, k39, D39, j39, rfl, rfl⟩
  rw [kq_pass]
  dsimp only [List.nil_append, List.cons_append]
  refine HO.v (V.move rfl) (ltn rfl) ?_
  refine HO.v (V.extract rfl rfl) (ltn rfl) ?_
  refine HO.v (V.extract rfl rfl) (ltn rfl) ?_
  refine HO.alloc ze29 rfl (ltn rfl) ?_
  intro b6
  refine HO.store sz29 rfl rfl rfl rfl rfl (by exact .mk .here (by repeat constructor)) ?_
  refine HO.v (V.assign rfl) (ltn rfl) ?_
  refine HO.nil ?_
  refine HQ.keep (.cons (t := 0) rfl (.cons (t := 1) rfl (.cons (t := 2) rfl (.cons (t := 3) rfl (.cons (t := 4) rfl (.cons (t := 5) rfl (.cons (t := 6) rfl (.cons (t := 7) rfl (.nil))))))))) ?_
  refine HQ.next ?_
  refine H.seq ?_
  refine H.region ?_
  refine HO.v (V.loadA ag29 rfl (by exact .mk (.there (.there (.there (.there (.there (.there (.there (.there (.there .here))))))))) (by repeat constructor))) (ltn rfl) ?_
  refine HO.call ca8 (.cons rfl (.nil)) (values_w kp _ _ _ _ kp_right) (by exact Rems.nil) (by (refine Reads.row (.tail _ (.tail _ (.tail _ (.tail _ (.tail _ (.tail _ (.tail _ (.tail _ (.tail _ (.tail _ (.tail _ (.head _)))))))))))) ?_); (refine Reads.row (.tail _ (.tail _ (.tail _ (.tail _ (.tail _ (.tail _ (.tail _ (.tail _ (.tail _ (.tail _ (.head _))))))))))) ?_); exact Reads.nil) (ltn rfl) ?_
  rintro v44 L44 ⟨C44, k44, rfl, rfl⟩
  rw [kp_vals]
  dsimp only [List.nil_append, List.cons_append]
  refine HO.v (V.move rfl) (ltn rfl) ?_
  refine HO.v (V.extract rfl rfl) (ltn rfl) ?_
  refine HO.v (V.extract rfl rfl) (ltn rfl) ?_
  refine HO.v (V.assign rfl) (ltn rfl) ?_
  refine HO.v (V.assign rfl) (ltn rfl) ?_
  refine HO.nil ?_
  refine HQ.keep (.cons (t := 0) rfl (.cons (t := 1) rfl (.cons (t := 2) rfl (.cons (t := 3) rfl (.cons (t := 4) rfl (.cons (t := 5) rfl (.cons (t := 6) rfl (.cons (t := 7) rfl (.cons (t := 8) rfl (.cons (t := 9) rfl (.nil))))))))))) ?_
  refine HQ.next ?_
  refine H.seq ?_
  refine H.region ?_
  refine HO.v (V.loadA ag29 rfl (by exact .mk (.there (.there (.there (.there (.there (.there (.there .here))))))) (by repeat constructor))) (ltn rfl) ?_
  refine HO.call ca8 (.cons rfl (.nil)) (values_w kq _ _ _ _ kq_right) (by exact Rems.nil) (by (refine Reads.row (.tail _ (.tail _ (.tail _ (.tail _ (.tail _ (.tail _ (.tail _ (.tail _ (.tail _ (.head _)))))))))) ?_); (refine Reads.row (.tail _ (.tail _ (.tail _ (.tail _ (.tail _ (.tail _ (.tail _ (.tail _ (.head _))))))))) ?_); exact Reads.nil) (ltn rfl) ?_
  rintro v49 L49 ⟨C49, k49, rfl, rfl⟩
  rw [kq_vals]
  dsimp only [List.nil_append, List.cons_append]
  refine HO.v (V.move rfl) (ltn rfl) ?_
  refine HO.v (V.extract rfl rfl) (ltn rfl) ?_
  refine HO.v (V.extract rfl rfl) (ltn rfl) ?_
  refine HO.v (V.assign rfl) (ltn rfl) ?_
  refine HO.v (V.assign rfl) (ltn rfl) ?_
  refine HO.nil ?_
  refine HQ.keep (.cons (t := 0) rfl (.cons (t := 1) rfl (.cons (t := 2) rfl (.cons (t := 3) rfl (.cons (t := 4) rfl (.cons (t := 5) rfl (.cons (t := 6) rfl (.cons (t := 7) rfl (.cons (t := 8) rfl (.cons (t := 9) rfl (.cons (t := 10) rfl (.cons (t := 11) rfl (.nil))))))))))))) ?_
  refine HQ.next ?_
  refine H.seq ?_
  refine H.region ?_
  refine HO.v (V.build ze29 pl29 rfl (.cons rfl (.cons rfl (.nil))) (.cons rfl rfl rfl (by repeat constructor) (.cons rfl rfl rfl (by repeat constructor) (.nil)))) (ltn rfl) ?_
  refine HO.call ca10 (.cons rfl (.nil)) (sharePass_bad) (by exact Rems.nil) (by exact Reads.nil) (ltn rfl) ?_
  rintro v54 L54 ⟨rfl, rfl⟩
  dsimp only [List.nil_append, List.cons_append]
  refine HO.v (V.move rfl) (ltn rfl) ?_
  refine HO.v (V.extract rfl rfl) (ltn rfl) ?_
  refine HO.v (V.extract rfl rfl) (ltn rfl) ?_
  refine HO.alloc ze29 rfl (ltn rfl) ?_
  intro b12
  refine HO.store sz29 rfl rfl rfl rfl rfl (by exact .mk .here (by repeat constructor)) ?_
  refine HO.v (V.assign rfl) (ltn rfl) ?_
  refine HO.nil ?_
  refine HQ.keep (.cons (t := 0) rfl (.cons (t := 1) rfl (.cons (t := 2) rfl (.cons (t := 3) rfl (.cons (t := 4) rfl (.cons (t := 5) rfl (.cons (t := 6) rfl (.cons (t := 7) rfl (.cons (t := 8) rfl (.cons (t := 9) rfl (.cons (t := 10) rfl (.cons (t := 11) rfl (.cons (t := 13) rfl (.nil)))))))))))))) ?_
  refine HQ.next ?_
  refine H.seq ?_
  refine H.region ?_
  refine HO.v (V.loadA ag29 rfl (by exact .mk (.there (.there (.there (.there (.there (.there (.there (.there (.there (.there (.there (.there .here)))))))))))) (by repeat constructor))) (ltn rfl) ?_
  refine HO.call ca4 (.cons rfl (.nil)) (held14_w kp _ _ _ _ kp_right) (by exact Rems.nil) (by (refine Reads.row (.tail _ (.tail _ (.tail _ (.tail _ (.tail _ (.tail _ (.tail _ (.tail _ (.tail _ (.tail _ (.tail _ (.tail _ (.tail _ (.tail _ (.head _))))))))))))))) ?_); (refine Reads.row (.tail _ (.tail _ (.tail _ (.tail _ (.tail _ (.tail _ (.tail _ (.tail _ (.tail _ (.tail _ (.tail _ (.tail _ (.tail _ (.head _)))))))))))))) ?_); exact Reads.nil) (ltn rfl) ?_
  rintro v59 L59 ⟨rfl, rfl⟩
  rw [kp_pass]
  dsimp only [List.nil_append, List.cons_append]
  refine HO.v (V.move rfl) (ltn rfl) ?_
  refine HO.v (V.extract rfl rfl) (ltn rfl) ?_
  refine HO.v (V.extract rfl rfl) (ltn rfl) ?_
  refine HO.v (V.assign rfl) (ltn rfl) ?_
  refine HO.v (V.assign rfl) (ltn rfl) ?_
  refine HO.nil ?_
  refine HQ.keep (.cons (t := 0) rfl (.cons (t := 1) rfl (.cons (t := 3) rfl (.cons (t := 4) rfl (.cons (t := 5) rfl (.cons (t := 6) rfl (.cons (t := 7) rfl (.cons (t := 8) rfl (.cons (t := 9) rfl (.cons (t := 10) rfl (.cons (t := 11) rfl (.cons (t := 13) rfl (.cons (t := 14) rfl (.cons (t := 15) rfl (.nil))))))))))))))) ?_
  refine HQ.next ?_
  refine H.seq ?_
  refine H.region ?_
  refine HO.v (V.loadA ag29 rfl (by exact .mk (.there (.there (.there (.there (.there (.there (.there (.there (.there .here))))))))) (by repeat constructor))) (ltn rfl) ?_
  refine HO.call ca4 (.cons rfl (.nil)) (held14_w kq _ _ _ _ kq_right) (by exact Rems.nil) (by (refine Reads.row (.tail _ (.tail _ (.tail _ (.tail _ (.tail _ (.tail _ (.tail _ (.tail _ (.tail _ (.tail _ (.tail _ (.head _)))))))))))) ?_); (refine Reads.row (.tail _ (.tail _ (.tail _ (.tail _ (.tail _ (.tail _ (.tail _ (.tail _ (.tail _ (.tail _ (.head _))))))))))) ?_); exact Reads.nil) (ltn rfl) ?_
  rintro v64 L64 ⟨rfl, rfl⟩
  rw [kq_pass]
  dsimp only [List.nil_append, List.cons_append]
  refine HO.v (V.move rfl) (ltn rfl) ?_
  refine HO.v (V.extract rfl rfl) (ltn rfl) ?_
  refine HO.v (V.extract rfl rfl) (ltn rfl) ?_
  refine HO.v (V.assign rfl) (ltn rfl) ?_
  refine HO.v (V.assign rfl) (ltn rfl) ?_
  refine HO.nil ?_
  refine HQ.keep (.cons (t := 0) rfl (.cons (t := 1) rfl (.cons (t := 4) rfl (.cons (t := 5) rfl (.cons (t := 6) rfl (.cons (t := 7) rfl (.cons (t := 8) rfl (.cons (t := 9) rfl (.cons (t := 10) rfl (.cons (t := 11) rfl (.cons (t := 13) rfl (.cons (t := 14) rfl (.cons (t := 15) rfl (.cons (t := 16) rfl (.cons (t := 17) rfl (.nil)))))))))))))))) ?_
  refine HQ.next ?_
  refine H.seq ?_
  refine H.drawsP [cellsCh b4 _ _, cellsCh b6 _ _, rowE (encI .i64) 3 C44 _ _, rowE (encI .i64) 3 C49 _ _] [] [[], [0], [1], [2], [3, 2], [2, 4], [5, 2], [6], [7, 6], [6, 8], [9, 6], [10], [11, 10], [10, 12], [13, 10], [14], [15, 14], [14, 16], [17, 14], [18], [18], [20, 18, 18], [18], [18], [21, 22, 23, 18], [18], [19, 24, 25, 21, 18], [18, 26], [27, 26], [28], [28], [30, 28, 28], [31, 28], [28], [29, 32, 33, 31, 28], [28, 34], [35, 34], [36], [37, 36], [38, 36], [36, 39], [40, 36], [41], [42, 41], [43, 41], [44, 41], [41, 45], [46, 41], [47], [48, 47], [49, 47], [50, 47], [47, 51], [52, 47], [53], [54, 53], [55, 53], [56, 53], [53, 57], [58, 53], [59], [60, 59], [61, 59], [59, 62], [63, 59], [64], [65, 64], [66, 64], [67, 64], [64, 68], [69, 64], [70], [71, 70], [72, 70], [73, 70], [70, 74], [75, 70], [76], [76, 77], [78, 76], [79], [80, 79], [79, 81], [82, 79], [83], [83, 84], [85, 83], [86], [87, 86], [86, 88], [89, 86, 0, 1, 2, 3, 4, 5, 6, 7, 8, 9, 10, 11, 12, 13, 14, 15, 16, 17, 18, 19, 20, 21, 22, 23, 24, 25, 26, 27, 28, 29, 30, 31, 32, 33, 34, 35, 36, 37, 38, 39, 40, 41, 42, 43, 44, 45, 46, 47, 48, 49, 50, 51, 52, 53, 54, 55, 56, 57, 58, 59, 60, 61, 62, 63, 64, 65, 66, 67, 68, 69, 70, 71, 72, 73, 74, 75, 76, 77, 78, 79, 80, 81, 82, 83, 84, 85, 86, 87, 88, 89]] (.one 0 (.one 1 (.one 2 (.one 3 (.one 4 (.one 5 (.one 6 (.one 7 (.one 8 (.one 9 (.one 10 (.one 11 (.one 12 (.one 13 (.one 14 (.one 15 (.one 16 (.one 17 (.one 18 (.take 19 (.take 20 (.take 22 (.take 23 (.two 21 25 (.two 24 25 (.one 25 (.one 26 (.one 27 (.one 28 (.take 29 (.take 30 (.two 31 33 (.two 32 33 (.one 33 (.one 34 (.one 35 (.one 36 (.one 37 (.one 38 (.one 39 (.one 40 (.one 41 (.one 42 (.one 43 (.one 44 (.one 45 (.one 46 (.one 47 (.one 48 (.one 49 (.one 50 (.one 51 (.one 52 (.one 53 (.one 54 (.one 55 (.one 56 (.one 57 (.one 58 (.one 59 (.one 60 (.one 61 (.one 62 (.one 63 (.one 64 (.one 65 (.one 66 (.one 67 (.one 68 (.one 69 (.one 70 (.one 71 (.one 72 (.one 73 (.one 74 (.one 75 (.one 76 (.one 77 (.one 78 (.one 79 (.one 80 (.one 81 (.one 82 (.one 83 (.one 84 (.one 85 (.one 86 (.one 87 (.one 88 (.one 89 (.one 90 .done)))))))))))))))))))))))))))))))))))))))))))))))))))))))))) (.one 32 (.one 34 (.one 35 (.one 36 (.one 37 (.one 38 (.one 39 (.one 40 (.one 41 (.one 42 (.one 43 (.one 44 (.one 45 (.one 46 (.one 47 (.one 48 (.one 49 (.one 50 (.one 51 (.one 52 (.one 53 (.one 54 (.one 55 (.one 56 (.one 57 (.one 58 (.one 59 (.one 60 (.one 61 (.one 62 (.one 63 (.one 64 (.one 65 (.one 66 (.one 67 (.one 68 (.one 69 (.one 70 (.one 71 (.one 72 (.one 73 (.one 74 (.one 75 (.one 76 (.one 77 (.one 78 (.one 79 (.one 80 (.one 81 (.one 82 (.one 83 (.one 84 (.one 85 (.one 86 (.one 87 (.one 88 (.one 89 (.one 90 .done))))))))))))))))))))))))))))))))))))))))))))))))))))))))))) (.one 31 (.one 32 (.one 34 (.one 35 (.one 36 (.one 37 (.one 38 (.one 39 (.one 40 (.one 41 (.one 42 (.one 43 (.one 44 (.one 45 (.one 46 (.one 47 (.one 48 (.one 49 (.one 50 (.one 51 (.one 52 (.one 53 (.one 54 (.one 55 (.one 56 (.one 57 (.one 58 (.one 59 (.one 60 (.one 61 (.one 62 (.one 63 (.one 64 (.one 65 (.one 66 (.one 67 (.one 68 (.one 69 (.one 70 (.one 71 (.one 72 (.one 73 (.one 74 (.one 75 (.one 76 (.one 77 (.one 78 (.one 79 (.one 80 (.one 81 (.one 82 (.one 83 (.one 84 (.one 85 (.one 86 (.one 87 (.one 88 (.one 89 (.one 90 .done)))))))))))))))))))))))))))))))))))))))))))))))))))))))))))))))))) (.one 24 (.one 26 (.one 27 (.one 28 (.take 29 (.take 30 (.two 31 33 (.two 32 33 (.one 33 (.one 34 (.one 35 (.one 36 (.one 37 (.one 38 (.one 39 (.one 40 (.one 41 (.one 42 (.one 43 (.one 44 (.one 45 (.one 46 (.one 47 (.one 48 (.one 49 (.one 50 (.one 51 (.one 52 (.one 53 (.one 54 (.one 55 (.one 56 (.one 57 (.one 58 (.one 59 (.one 60 (.one 61 (.one 62 (.one 63 (.one 64 (.one 65 (.one 66 (.one 67 (.one 68 (.one 69 (.one 70 (.one 71 (.one 72 (.one 73 (.one 74 (.one 75 (.one 76 (.one 77 (.one 78 (.one 79 (.one 80 (.one 81 (.one 82 (.one 83 (.one 84 (.one 85 (.one 86 (.one 87 (.one 88 (.one 89 (.one 90 .done)))))))))))))))))))))))))))))))))))))))))))))))))))))))))) (.one 32 (.one 34 (.one 35 (.one 36 (.one 37 (.one 38 (.one 39 (.one 40 (.one 41 (.one 42 (.one 43 (.one 44 (.one 45 (.one 46 (.one 47 (.one 48 (.one 49 (.one 50 (.one 51 (.one 52 (.one 53 (.one 54 (.one 55 (.one 56 (.one 57 (.one 58 (.one 59 (.one 60 (.one 61 (.one 62 (.one 63 (.one 64 (.one 65 (.one 66 (.one 67 (.one 68 (.one 69 (.one 70 (.one 71 (.one 72 (.one 73 (.one 74 (.one 75 (.one 76 (.one 77 (.one 78 (.one 79 (.one 80 (.one 81 (.one 82 (.one 83 (.one 84 (.one 85 (.one 86 (.one 87 (.one 88 (.one 89 (.one 90 .done))))))))))))))))))))))))))))))))))))))))))))))))))))))))))) (.one 31 (.one 32 (.one 34 (.one 35 (.one 36 (.one 37 (.one 38 (.one 39 (.one 40 (.one 41 (.one 42 (.one 43 (.one 44 (.one 45 (.one 46 (.one 47 (.one 48 (.one 49 (.one 50 (.one 51 (.one 52 (.one 53 (.one 54 (.one 55 (.one 56 (.one 57 (.one 58 (.one 59 (.one 60 (.one 61 (.one 62 (.one 63 (.one 64 (.one 65 (.one 66 (.one 67 (.one 68 (.one 69 (.one 70 (.one 71 (.one 72 (.one 73 (.one 74 (.one 75 (.one 76 (.one 77 (.one 78 (.one 79 (.one 80 (.one 81 (.one 82 (.one 83 (.one 84 (.one 85 (.one 86 (.one 87 (.one 88 (.one 89 (.one 90 .done))))))))))))))))))))))))))))))))))))))))))))))))))))))))))))))))))) (.one 21 (.one 24 (.one 26 (.one 27 (.one 28 (.take 29 (.take 30 (.two 31 33 (.two 32 33 (.one 33 (.one 34 (.one 35 (.one 36 (.one 37 (.one 38 (.one 39 (.one 40 (.one 41 (.one 42 (.one 43 (.one 44 (.one 45 (.one 46 (.one 47 (.one 48 (.one 49 (.one 50 (.one 51 (.one 52 (.one 53 (.one 54 (.one 55 (.one 56 (.one 57 (.one 58 (.one 59 (.one 60 (.one 61 (.one 62 (.one 63 (.one 64 (.one 65 (.one 66 (.one 67 (.one 68 (.one 69 (.one 70 (.one 71 (.one 72 (.one 73 (.one 74 (.one 75 (.one 76 (.one 77 (.one 78 (.one 79 (.one 80 (.one 81 (.one 82 (.one 83 (.one 84 (.one 85 (.one 86 (.one 87 (.one 88 (.one 89 (.one 90 .done)))))))))))))))))))))))))))))))))))))))))))))))))))))))))) (.one 32 (.one 34 (.one 35 (.one 36 (.one 37 (.one 38 (.one 39 (.one 40 (.one 41 (.one 42 (.one 43 (.one 44 (.one 45 (.one 46 (.one 47 (.one 48 (.one 49 (.one 50 (.one 51 (.one 52 (.one 53 (.one 54 (.one 55 (.one 56 (.one 57 (.one 58 (.one 59 (.one 60 (.one 61 (.one 62 (.one 63 (.one 64 (.one 65 (.one 66 (.one 67 (.one 68 (.one 69 (.one 70 (.one 71 (.one 72 (.one 73 (.one 74 (.one 75 (.one 76 (.one 77 (.one 78 (.one 79 (.one 80 (.one 81 (.one 82 (.one 83 (.one 84 (.one 85 (.one 86 (.one 87 (.one 88 (.one 89 (.one 90 .done))))))))))))))))))))))))))))))))))))))))))))))))))))))))))) (.one 31 (.one 32 (.one 34 (.one 35 (.one 36 (.one 37 (.one 38 (.one 39 (.one 40 (.one 41 (.one 42 (.one 43 (.one 44 (.one 45 (.one 46 (.one 47 (.one 48 (.one 49 (.one 50 (.one 51 (.one 52 (.one 53 (.one 54 (.one 55 (.one 56 (.one 57 (.one 58 (.one 59 (.one 60 (.one 61 (.one 62 (.one 63 (.one 64 (.one 65 (.one 66 (.one 67 (.one 68 (.one 69 (.one 70 (.one 71 (.one 72 (.one 73 (.one 74 (.one 75 (.one 76 (.one 77 (.one 78 (.one 79 (.one 80 (.one 81 (.one 82 (.one 83 (.one 84 (.one 85 (.one 86 (.one 87 (.one 88 (.one 89 (.one 90 .done))))))))))))))))))))))))))))))))))))))))))))))))))))))))))))))))))))))))))))))))))))))))))) (Sub.at [6, 3, 2, 1] rfl) (by kernel_rfl) (by kernel_rfl) (by kernel_rfl) (by kernel_rfl) (by kernel_rfl) ?_
  refine HP.one (i := 0) rfl fun _ _ z1 z2 z3 z4 z5 => ?_
  refine HO.v (V.move rfl) (ltn rfl) ?_
  refine HO.nil ?_
  refine HQ.nxt z1 z2 z3 z4 z5 (Sub.at [6, 3, 2, 1] rfl) ?_
  refine HP.one (i := 1) rfl fun _ _ z1 z2 z3 z4 z5 => ?_
  refine HO.v (V.eqlI rfl rfl) (ltn rfl) ?_
  refine HO.nil ?_
  refine HQ.nxt z1 z2 z3 z4 z5 (Sub.at [6, 3, 2, 1] rfl) ?_
  refine HP.one (i := 2) rfl fun _ _ z1 z2 z3 z4 z5 => ?_
  refine HO.v (V.move rfl) (ltn rfl) ?_
  refine HO.nil ?_
  refine HQ.nxt z1 z2 z3 z4 z5 (Sub.at [6, 3, 2, 1] rfl) ?_
  refine HP.setT (t := 69) rfl (by rfl) ?_
  refine HP.one (i := 3) rfl fun _ _ z1 z2 z3 z4 z5 => ?_
  refine HO.gdo rfl rfl rfl rfl ?_
  refine HO.v (V.move rfl) (ltn rfl) ?_
  refine HO.nil ?_
  refine HQ.nxt z1 z2 z3 z4 z5 (Sub.at [6, 3, 2, 1] rfl) ?_
  refine HP.one (i := 4) rfl fun _ _ z1 z2 z3 z4 z5 => ?_
  refine HO.gdo rfl rfl rfl rfl ?_
  refine HO.v (V.eqlI rfl rfl) (ltn rfl) ?_
  refine HO.nil ?_
  refine HQ.nxt z1 z2 z3 z4 z5 (Sub.at [6, 3, 2, 1] rfl) ?_
  refine HP.one (i := 5) rfl fun _ _ z1 z2 z3 z4 z5 => ?_
  refine HO.v (V.pickT rfl rfl) (ltn rfl) ?_
  refine HO.nil ?_
  refine HQ.nxt z1 z2 z3 z4 z5 (Sub.at [6, 3, 2, 1] rfl) ?_
  refine HP.one (i := 6) rfl fun _ _ z1 z2 z3 z4 z5 => ?_
  refine HO.v (V.move rfl) (ltn rfl) ?_
  refine HO.nil ?_
  refine HQ.nxt z1 z2 z3 z4 z5 (Sub.at [6, 3, 2, 1] rfl) ?_
  refine HP.setT (t := 73) rfl (by rfl) ?_
  refine HP.one (i := 7) rfl fun _ _ z1 z2 z3 z4 z5 => ?_
  refine HO.gdo rfl rfl rfl rfl ?_
  refine HO.v (V.move rfl) (ltn rfl) ?_
  refine HO.nil ?_
  refine HQ.nxt z1 z2 z3 z4 z5 (Sub.at [6, 3, 2, 1] rfl) ?_
  refine HP.one (i := 8) rfl fun _ _ z1 z2 z3 z4 z5 => ?_
  refine HO.gdo rfl rfl rfl rfl ?_
  refine HO.v (V.eqlI rfl rfl) (ltn rfl) ?_
  refine HO.nil ?_
  refine HQ.nxt z1 z2 z3 z4 z5 (Sub.at [6, 3, 2, 1] rfl) ?_
  refine HP.one (i := 9) rfl fun _ _ z1 z2 z3 z4 z5 => ?_
  refine HO.v (V.pickT rfl rfl) (ltn rfl) ?_
  refine HO.nil ?_
  refine HQ.nxt z1 z2 z3 z4 z5 (Sub.at [6, 3, 2, 1] rfl) ?_
  refine HP.one (i := 10) rfl fun _ _ z1 z2 z3 z4 z5 => ?_
  refine HO.v (V.move rfl) (ltn rfl) ?_
  refine HO.nil ?_
  refine HQ.nxt z1 z2 z3 z4 z5 (Sub.at [6, 3, 2, 1] rfl) ?_
  refine HP.setT (t := 77) rfl (by rfl) ?_
  refine HP.one (i := 11) rfl fun _ _ z1 z2 z3 z4 z5 => ?_
  refine HO.gdo rfl rfl rfl rfl ?_
  refine HO.v (V.move rfl) (ltn rfl) ?_
  refine HO.nil ?_
  refine HQ.nxt z1 z2 z3 z4 z5 (Sub.at [6, 3, 2, 1] rfl) ?_
  refine HP.one (i := 12) rfl fun _ _ z1 z2 z3 z4 z5 => ?_
  refine HO.gdo rfl rfl rfl rfl ?_
  refine HO.v (V.eqlI rfl rfl) (ltn rfl) ?_
  refine HO.nil ?_
  refine HQ.nxt z1 z2 z3 z4 z5 (Sub.at [6, 3, 2, 1] rfl) ?_
  refine HP.one (i := 13) rfl fun _ _ z1 z2 z3 z4 z5 => ?_
  refine HO.v (V.pickT rfl rfl) (ltn rfl) ?_
  refine HO.nil ?_
  refine HQ.nxt z1 z2 z3 z4 z5 (Sub.at [6, 3, 2, 1] rfl) ?_
  refine HP.one (i := 14) rfl fun _ _ z1 z2 z3 z4 z5 => ?_
  refine HO.v (V.move rfl) (ltn rfl) ?_
  refine HO.nil ?_
  refine HQ.nxt z1 z2 z3 z4 z5 (Sub.at [6, 3, 2, 1] rfl) ?_
  refine HP.setT (t := 81) rfl (by rfl) ?_
  refine HP.one (i := 15) rfl fun _ _ z1 z2 z3 z4 z5 => ?_
  refine HO.gdo rfl rfl rfl rfl ?_
  refine HO.v (V.move rfl) (ltn rfl) ?_
  refine HO.nil ?_
  refine HQ.nxt z1 z2 z3 z4 z5 (Sub.at [6, 3, 2, 1] rfl) ?_
  refine HP.one (i := 16) rfl fun _ _ z1 z2 z3 z4 z5 => ?_
  refine HO.gdo rfl rfl rfl rfl ?_
  refine HO.v (V.eqlI rfl rfl) (ltn rfl) ?_
  refine HO.nil ?_
  refine HQ.nxt z1 z2 z3 z4 z5 (Sub.at [6, 3, 2, 1] rfl) ?_
  refine HP.one (i := 17) rfl fun _ _ z1 z2 z3 z4 z5 => ?_
  refine HO.v (V.pickT rfl rfl) (ltn rfl) ?_
  refine HO.nil ?_
  refine HQ.nxt z1 z2 z3 z4 z5 (Sub.at [6, 3, 2, 1] rfl) ?_
  refine HP.one (i := 18) rfl fun _ _ z1 z2 z3 z4 z5 => ?_
  refine HO.v (V.move rfl) (ltn rfl) ?_
  refine HO.nil ?_
  refine HQ.nxt z1 z2 z3 z4 z5 (Sub.at [6, 3, 2, 1] rfl) ?_
  refine HP.setT (t := 85) rfl (by rfl) ?_
  refine HP.take (i := 19) rfl rfl (ltn rfl) (gives_of (want_some rfl rfl rfl rfl) (V.loadA ag29 rfl (by exact .mk .here (by repeat constructor)))) (Sub.at [6, 3, 2, 1] rfl) ?_
  refine HP.take (i := 20) rfl rfl (ltn rfl) (gives_of (want_some rfl rfl rfl rfl) (V.move rfl)) (Sub.at [6, 3, 2, 1] rfl) ?_
  refine HP.take (i := 22) rfl rfl (ltn rfl) (gives_of (want_some rfl rfl rfl rfl) (V.build ze50 pl50 rfl (.cons rfl (.cons rfl (.cons rfl (.nil)))) (.cons rfl rfl rfl (by repeat constructor) (.cons rfl rfl rfl (by repeat constructor) (.cons rfl rfl rfl (by repeat constructor) (.nil)))))) (Sub.at [6, 3, 2, 1] rfl) ?_
  refine HP.take (i := 23) rfl rfl (ltn rfl) (gives_of (want_some rfl rfl rfl rfl) (V.build ze50 pl50 rfl (.cons rfl (.cons rfl (.cons rfl (.cons rfl (.nil))))) (.cons rfl rfl rfl (by repeat constructor) (.cons rfl rfl rfl (by repeat constructor) (.cons rfl rfl rfl (by repeat constructor) (.cons rfl rfl rfl (by repeat constructor) (.nil))))))) (Sub.at [6, 3, 2, 1] rfl) ?_
  refine HP.two (i := 21) (j := 25) rfl rfl ?_ ?_
  · skip
    intro _ _ z1 z2 z3 z4 z5
    refine HO.gdo rfl rfl rfl rfl ?_
    refine HO.callV ca13 rfl (.cons rfl (.cons rfl (.cons rfl (.nil)))) (add14_w _ _ _) (by exact Rems.nil) (by exact Reads.nil) (fun _ e => by cases e; exact (ltn rfl)) ?_
    rintro v88 L88 ⟨rfl, rfl⟩
    dsimp only [List.nil_append, List.cons_append]
    refine HO.nil ?_
    refine HQ.nxt z1 z2 z3 z4 z5 (Sub.at [6, 3, 2, 1] rfl) ?_
    refine HP.two (i := 24) (j := 25) rfl rfl ?_ ?_
    · skip
      intro _ _ z1 z2 z3 z4 z5
      refine HO.gdo rfl rfl rfl rfl ?_
      refine HO.buildRow encIn (kpp.code) Try.underlying26 ze50 (.cons rfl (.cons rfl (.cons rfl (.nil)))) (.cons rfl (.cons rfl (.cons rfl (.nil)))) (Nat.le_of_ble_eq_true rfl) (Nat.le_of_ble_eq_true rfl) (ltn rfl) ?_
      intro b91
      refine HO.nil ?_
      refine HQ.nxt z1 z2 z3 z4 z5 (Sub.at [7, 4, 3, 2] rfl) ?_
      refine HP.one (i := 25) rfl fun _ _ z1 z2 z3 z4 z5 => ?_
      refine HO.gdo rfl rfl rfl rfl ?_
      refine HO.buildRow (encI .i64) (kpp.outs) Try.underlying27 ze3 (.cons rfl (.cons rfl (.nil))) (.cons rfl (.cons rfl (.nil))) (Nat.le_of_ble_eq_true rfl) (Nat.le_of_ble_eq_true rfl) (ltn rfl) ?_
      intro b92
      refine HO.nil ?_
      refine HQ.nxt z1 z2 z3 z4 z5 (Sub.at [8, 5, 4, 3] rfl) ?_
      refine HP.one (i := 26) rfl fun _ _ z1 z2 z3 z4 z5 => ?_
      refine HO.gdo rfl rfl rfl rfl ?_
      refine HO.call ca11 (.cons rfl (.cons rfl (.cons rfl (.nil)))) (same14_w kpp _ _ _ _ _ _ _ _ (by decide) (by decide)) (by exact Rems.nil) (by (refine Reads.row (.tail _ (.tail _ (.tail _ (.tail _ (.tail _ (.tail _ (.tail _ (.tail _ (.tail _ (.head _)))))))))) ?_); (refine Reads.row (.tail _ (.tail _ (.tail _ (.tail _ (.tail _ (.tail _ (.tail _ (.tail _ (.tail _ (.tail _ (.head _))))))))))) ?_); (refine Reads.row (.tail _ (.head _)) ?_); (refine Reads.row (.head _) ?_); exact Reads.nil) (ltn rfl) ?_
      rintro v93 L93 ⟨rfl, rfl⟩
      dsimp only [List.nil_append, List.cons_append]
      refine HO.nil ?_
      refine HQ.nxt z1 z2 z3 z4 z5 (Sub.at [8, 5, 4, 3] rfl) ?_
      refine HP.one (i := 27) rfl fun _ _ z1 z2 z3 z4 z5 => ?_
      refine HO.v (V.pickT rfl rfl) (ltn rfl) ?_
      refine HO.nil ?_
      refine HQ.nxt z1 z2 z3 z4 z5 (Sub.at [8, 5, 4, 3] rfl) ?_
      refine HP.one (i := 28) rfl fun _ _ z1 z2 z3 z4 z5 => ?_
      refine HO.v (V.move rfl) (ltn rfl) ?_
      refine HO.nil ?_
      refine HQ.nxt z1 z2 z3 z4 z5 (Sub.at [8, 5, 4, 3] rfl) ?_
      refine HP.setT (t := 95) rfl (by rfl) ?_
      refine HP.take (i := 29) rfl rfl (ltn rfl) (gives_of (want_some rfl rfl rfl rfl) (V.loadA ag29 rfl (by exact .mk (.there .here) (by repeat constructor)))) (Sub.at [8, 5, 4, 3] rfl) ?_
      refine HP.take (i := 30) rfl rfl (ltn rfl) (gives_of (want_some rfl rfl rfl rfl) (V.move rfl)) (Sub.at [8, 5, 4, 3] rfl) ?_
      refine HP.two (i := 31) (j := 33) rfl rfl ?_ ?_
      · skip
        intro _ _ z1 z2 z3 z4 z5
        refine HO.gdo rfl rfl rfl rfl ?_
        refine HO.callV ca13 rfl (.cons rfl (.cons rfl (.cons rfl (.nil)))) (add14_w _ _ _) (by exact Rems.nil) (by exact Reads.nil) (fun _ e => by cases e; exact (ltn rfl)) ?_
        rintro v98 L98 ⟨rfl, rfl⟩
        dsimp only [List.nil_append, List.cons_append]
        refine HO.nil ?_
        refine HQ.nxt z1 z2 z3 z4 z5 (Sub.at [8, 5, 4, 3] rfl) ?_
        refine HP.two (i := 32) (j := 33) rfl rfl ?_ ?_
        · skip
          intro _ _ z1 z2 z3 z4 z5
          refine HO.gdo rfl rfl rfl rfl ?_
          refine HO.buildRow encIn (kqq.code) Try.underlying26 ze50 (.cons rfl (.nil)) (.cons rfl (.nil)) (Nat.le_of_ble_eq_true rfl) (Nat.le_of_ble_eq_true rfl) (ltn rfl) ?_
          intro b99
          refine HO.nil ?_
          refine HQ.nxt z1 z2 z3 z4 z5 (Sub.at [9, 6, 5, 4] rfl) ?_
          refine HP.one (i := 33) rfl fun _ _ z1 z2 z3 z4 z5 => ?_
          refine HO.gdo rfl rfl rfl rfl ?_
          refine HO.buildRow (encI .i64) (kqq.outs) Try.underlying27 ze3 (.cons rfl (.nil)) (.cons rfl (.nil)) (Nat.le_of_ble_eq_true rfl) (Nat.le_of_ble_eq_true rfl) (ltn rfl) ?_
          intro b100
          refine HO.nil ?_
          refine HQ.nxt z1 z2 z3 z4 z5 (Sub.at [10, 7, 6, 5] rfl) ?_
          refine HP.one (i := 34) rfl fun _ _ z1 z2 z3 z4 z5 => ?_
          refine HO.gdo rfl rfl rfl rfl ?_
          refine HO.call ca11 (.cons rfl (.cons rfl (.cons rfl (.nil)))) (same14_w kqq _ _ _ _ _ _ _ _ (by decide) (by decide)) (by exact Rems.nil) (by (refine Reads.row (.tail _ (.tail _ (.tail _ (.tail _ (.tail _ (.tail _ (.tail _ (.tail _ (.head _))))))))) ?_); (refine Reads.row (.tail _ (.tail _ (.tail _ (.tail _ (.tail _ (.tail _ (.tail _ (.tail _ (.tail _ (.head _)))))))))) ?_); (refine Reads.row (.tail _ (.head _)) ?_); (refine Reads.row (.head _) ?_); exact Reads.nil) (ltn rfl) ?_
          rintro v101 L101 ⟨rfl, rfl⟩
          dsimp only [List.nil_append, List.cons_append]
          refine HO.nil ?_
          refine HQ.nxt z1 z2 z3 z4 z5 (Sub.at [10, 7, 6, 5] rfl) ?_
          refine HP.one (i := 35) rfl fun _ _ z1 z2 z3 z4 z5 => ?_
          refine HO.v (V.pickT rfl rfl) (ltn rfl) ?_
          refine HO.nil ?_
          refine HQ.nxt z1 z2 z3 z4 z5 (Sub.at [10, 7, 6, 5] rfl) ?_
          refine HP.one (i := 36) rfl fun _ _ z1 z2 z3 z4 z5 => ?_
          refine HO.v (V.move rfl) (ltn rfl) ?_
          refine HO.nil ?_
          refine HQ.nxt z1 z2 z3 z4 z5 (Sub.at [10, 7, 6, 5] rfl) ?_
          refine HP.setT (t := 103) rfl (by rfl) ?_
          refine HP.one (i := 37) rfl fun _ _ z1 z2 z3 z4 z5 => ?_
          refine HO.gdo rfl rfl rfl rfl ?_
          refine HO.v (V.move rfl) (ltn rfl) ?_
          refine HO.nil ?_
          refine HQ.nxt z1 z2 z3 z4 z5 (Sub.at [10, 7, 6, 5] rfl) ?_
          refine HP.one (i := 38) rfl fun _ _ z1 z2 z3 z4 z5 => ?_
          refine HO.gdo rfl rfl rfl rfl ?_
          refine HO.v (V.len Try.underlying27 rfl) (ltn rfl) ?_
          refine HO.nil ?_
          refine HQ.nxt z1 z2 z3 z4 z5 (Sub.at [10, 7, 6, 5] rfl) ?_
          refine HP.one (i := 39) rfl fun _ _ z1 z2 z3 z4 z5 => ?_
          refine HO.gdo rfl rfl rfl rfl ?_
          refine HO.v (V.eqlI rfl rfl) (ltn rfl) ?_
          refine HO.nil ?_
          refine HQ.nxt z1 z2 z3 z4 z5 (Sub.at [10, 7, 6, 5] rfl) ?_
          refine HP.one (i := 40) rfl fun _ _ z1 z2 z3 z4 z5 => ?_
          refine HO.v (V.pickT rfl rfl) (ltn rfl) ?_
          refine HO.nil ?_
          refine HQ.nxt z1 z2 z3 z4 z5 (Sub.at [10, 7, 6, 5] rfl) ?_
          refine HP.one (i := 41) rfl fun _ _ z1 z2 z3 z4 z5 => ?_
          refine HO.v (V.move rfl) (ltn rfl) ?_
          refine HO.nil ?_
          refine HQ.nxt z1 z2 z3 z4 z5 (Sub.at [10, 7, 6, 5] rfl) ?_
          refine HP.setT (t := 108) rfl (by rfl) ?_
          refine HP.one (i := 42) rfl fun _ _ z1 z2 z3 z4 z5 => ?_
          refine HO.gdo rfl rfl rfl rfl ?_
          refine HO.v (V.move rfl) (ltn rfl) ?_
          refine HO.nil ?_
          refine HQ.nxt z1 z2 z3 z4 z5 (Sub.at [10, 7, 6, 5] rfl) ?_
          refine HP.one (i := 43) rfl fun _ _ z1 z2 z3 z4 z5 => ?_
          refine HO.gdo rfl rfl rfl rfl ?_
          refine HO.v (V.indexAddr (N := (encI .i64)) (ys := _) Try.underlying27 sz3 rfl rfl (by first | omega | decide | simp) (by first | omega | decide | simp) (by exact Has.own (.there (.there (.there (.there (.there (.there .here)))))))) (ltn rfl) ?_
          refine HO.nil ?_
          refine HQ.nxt z1 z2 z3 z4 z5 (Sub.at [10, 7, 6, 5] rfl) ?_
          refine HP.one (i := 44) rfl fun _ _ z1 z2 z3 z4 z5 => ?_
          refine HO.gdo rfl rfl rfl rfl ?_
          refine HO.v (V.loadE (N := (encI .i64)) sc3 rfl (by exact .mk (Has.own (.there (.there (.there (.there (.there (.there .here))))))) (rfl) rfl)) (ltn rfl) ?_
          refine HO.nil ?_
          refine HQ.nxt z1 z2 z3 z4 z5 (Sub.at [10, 7, 6, 5] rfl) ?_
          refine HP.one (i := 45) rfl fun _ _ z1 z2 z3 z4 z5 => ?_
          refine HO.gdo rfl rfl rfl rfl ?_
          refine HO.v (V.eqlI rfl rfl) (ltn rfl) ?_
          refine HO.nil ?_
          refine HQ.nxt z1 z2 z3 z4 z5 (Sub.at [10, 7, 6, 5] rfl) ?_
          refine HP.one (i := 46) rfl fun _ _ z1 z2 z3 z4 z5 => ?_
          refine HO.v (V.pickT rfl rfl) (ltn rfl) ?_
          refine HO.nil ?_
          refine HQ.nxt z1 z2 z3 z4 z5 (Sub.at [10, 7, 6, 5] rfl) ?_
          refine HP.one (i := 47) rfl fun _ _ z1 z2 z3 z4 z5 => ?_
          refine HO.v (V.move rfl) (ltn rfl) ?_
          refine HO.nil ?_
          refine HQ.nxt z1 z2 z3 z4 z5 (Sub.at [10, 7, 6, 5] rfl) ?_
          refine HP.setT (t := 114) rfl (by rfl) ?_
          refine HP.one (i := 48) rfl fun _ _ z1 z2 z3 z4 z5 => ?_
          refine HO.gdo rfl rfl rfl rfl ?_
          refine HO.v (V.move rfl) (ltn rfl) ?_
          refine HO.nil ?_
          refine HQ.nxt z1 z2 z3 z4 z5 (Sub.at [10, 7, 6, 5] rfl) ?_
          refine HP.one (i := 49) rfl fun _ _ z1 z2 z3 z4 z5 => ?_
          refine HO.gdo rfl rfl rfl rfl ?_
          refine HO.v (V.indexAddr (N := (encI .i64)) (ys := _) Try.underlying27 sz3 rfl rfl (by first | omega | decide | simp) (by first | omega | decide | simp) (by exact Has.own (.there (.there (.there (.there (.there (.there .here)))))))) (ltn rfl) ?_
          refine HO.nil ?_
          refine HQ.nxt z1 z2 z3 z4 z5 (Sub.at [10, 7, 6, 5] rfl) ?_
          refine HP.one (i := 50) rfl fun _ _ z1 z2 z3 z4 z5 => ?_
          refine HO.gdo rfl rfl rfl rfl ?_
          refine HO.v (V.loadE (N := (encI .i64)) sc3 rfl (by exact .mk (Has.own (.there (.there (.there (.there (.there (.there .here))))))) (rfl) rfl)) (ltn rfl) ?_
          refine HO.nil ?_
          refine HQ.nxt z1 z2 z3 z4 z5 (Sub.at [10, 7, 6, 5] rfl) ?_
          refine HP.one (i := 51) rfl fun _ _ z1 z2 z3 z4 z5 => ?_
          refine HO.gdo rfl rfl rfl rfl ?_
          refine HO.v (V.eqlI rfl rfl) (ltn rfl) ?_
          refine HO.nil ?_
          refine HQ.nxt z1 z2 z3 z4 z5 (Sub.at [10, 7, 6, 5] rfl) ?_
          refine HP.one (i := 52) rfl fun _ _ z1 z2 z3 z4 z5 => ?_
          refine HO.v (V.pickT rfl rfl) (ltn rfl) ?_
          refine HO.nil ?_
          refine HQ.nxt z1 z2 z3 z4 z5 (Sub.at [10, 7, 6, 5] rfl) ?_
          refine HP.one (i := 53) rfl fun _ _ z1 z2 z3 z4 z5 => ?_
          refine HO.v (V.move rfl) (ltn rfl) ?_
          refine HO.nil ?_
          refine HQ.nxt z1 z2 z3 z4 z5 (Sub.at [10, 7, 6, 5] rfl) ?_
          refine HP.setT (t := 120) rfl (by rfl) ?_
          refine HP.one (i := 54) rfl fun _ _ z1 z2 z3 z4 z5 => ?_
          refine HO.gdo rfl rfl rfl rfl ?_
          refine HO.v (V.move rfl) (ltn rfl) ?_
          refine HO.nil ?_
          refine HQ.nxt z1 z2 z3 z4 z5 (Sub.at [10, 7, 6, 5] rfl) ?_
          refine HP.one (i := 55) rfl fun _ _ z1 z2 z3 z4 z5 => ?_
          refine HO.gdo rfl rfl rfl rfl ?_
          refine HO.v (V.indexAddr (N := (encI .i64)) (ys := _) Try.underlying27 sz3 rfl rfl (by first | omega | decide | simp) (by first | omega | decide | simp) (by exact Has.own (.there (.there (.there (.there (.there (.there .here)))))))) (ltn rfl) ?_
          refine HO.nil ?_
          refine HQ.nxt z1 z2 z3 z4 z5 (Sub.at [10, 7, 6, 5] rfl) ?_
          refine HP.one (i := 56) rfl fun _ _ z1 z2 z3 z4 z5 => ?_
          refine HO.gdo rfl rfl rfl rfl ?_
          refine HO.v (V.loadE (N := (encI .i64)) sc3 rfl (by exact .mk (Has.own (.there (.there (.there (.there (.there (.there .here))))))) (rfl) rfl)) (ltn rfl) ?_
          refine HO.nil ?_
          refine HQ.nxt z1 z2 z3 z4 z5 (Sub.at [10, 7, 6, 5] rfl) ?_
          refine HP.one (i := 57) rfl fun _ _ z1 z2 z3 z4 z5 => ?_
          refine HO.gdo rfl rfl rfl rfl ?_
          refine HO.v (V.eqlI rfl rfl) (ltn rfl) ?_
          refine HO.nil ?_
          refine HQ.nxt z1 z2 z3 z4 z5 (Sub.at [10, 7, 6, 5] rfl) ?_
          refine HP.one (i := 58) rfl fun _ _ z1 z2 z3 z4 z5 => ?_
          refine HO.v (V.pickT rfl rfl) (ltn rfl) ?_
          refine HO.nil ?_
          refine HQ.nxt z1 z2 z3 z4 z5 (Sub.at [10, 7, 6, 5] rfl) ?_
          refine HP.one (i := 59) rfl fun _ _ z1 z2 z3 z4 z5 => ?_
          refine HO.v (V.move rfl) (ltn rfl) ?_
          refine HO.nil ?_
          refine HQ.nxt z1 z2 z3 z4 z5 (Sub.at [10, 7, 6, 5] rfl) ?_
          refine HP.setT (t := 126) rfl (by rfl) ?_
          refine HP.one (i := 60) rfl fun _ _ z1 z2 z3 z4 z5 => ?_
          refine HO.gdo rfl rfl rfl rfl ?_
          refine HO.v (V.move rfl) (ltn rfl) ?_
          refine HO.nil ?_
          refine HQ.nxt z1 z2 z3 z4 z5 (Sub.at [10, 7, 6, 5] rfl) ?_
          refine HP.one (i := 61) rfl fun _ _ z1 z2 z3 z4 z5 => ?_
          refine HO.gdo rfl rfl rfl rfl ?_
          refine HO.v (V.len Try.underlying27 rfl) (ltn rfl) ?_
          refine HO.nil ?_
          refine HQ.nxt z1 z2 z3 z4 z5 (Sub.at [10, 7, 6, 5] rfl) ?_
          refine HP.one (i := 62) rfl fun _ _ z1 z2 z3 z4 z5 => ?_
          refine HO.gdo rfl rfl rfl rfl ?_
          refine HO.v (V.eqlI rfl rfl) (ltn rfl) ?_
          refine HO.nil ?_
          refine HQ.nxt z1 z2 z3 z4 z5 (Sub.at [10, 7, 6, 5] rfl) ?_
          refine HP.one (i := 63) rfl fun _ _ z1 z2 z3 z4 z5 => ?_
          refine HO.v (V.pickT rfl rfl) (ltn rfl) ?_
          refine HO.nil ?_
          refine HQ.nxt z1 z2 z3 z4 z5 (Sub.at [10, 7, 6, 5] rfl) ?_
          refine HP.one (i := 64) rfl fun _ _ z1 z2 z3 z4 z5 => ?_
          refine HO.v (V.move rfl) (ltn rfl) ?_
          refine HO.nil ?_
          refine HQ.nxt z1 z2 z3 z4 z5 (Sub.at [10, 7, 6, 5] rfl) ?_
          refine HP.setT (t := 131) rfl (by rfl) ?_
          refine HP.one (i := 65) rfl fun _ _ z1 z2 z3 z4 z5 => ?_
          refine HO.gdo rfl rfl rfl rfl ?_
          refine HO.v (V.move rfl) (ltn rfl) ?_
          refine HO.nil ?_
          refine HQ.nxt z1 z2 z3 z4 z5 (Sub.at [10, 7, 6, 5] rfl) ?_
          refine HP.one (i := 66) rfl fun _ _ z1 z2 z3 z4 z5 => ?_
          refine HO.gdo rfl rfl rfl rfl ?_
          refine HO.v (V.indexAddr (N := (encI .i64)) (ys := _) Try.underlying27 sz3 rfl rfl (by first | omega | decide | simp) (by first | omega | decide | simp) (by exact Has.own (.there (.there (.there (.there (.there .here))))))) (ltn rfl) ?_
          refine HO.nil ?_
          refine HQ.nxt z1 z2 z3 z4 z5 (Sub.at [10, 7, 6, 5] rfl) ?_
          refine HP.one (i := 67) rfl fun _ _ z1 z2 z3 z4 z5 => ?_
          refine HO.gdo rfl rfl rfl rfl ?_
          refine HO.v (V.loadE (N := (encI .i64)) sc3 rfl (by exact .mk (Has.own (.there (.there (.there (.there (.there .here)))))) (rfl) rfl)) (ltn rfl) ?_
          refine HO.nil ?_
          refine HQ.nxt z1 z2 z3 z4 z5 (Sub.at [10, 7, 6, 5] rfl) ?_
          refine HP.one (i := 68) rfl fun _ _ z1 z2 z3 z4 z5 => ?_
          refine HO.gdo rfl rfl rfl rfl ?_
          refine HO.v (V.eqlI rfl rfl) (ltn rfl) ?_
          refine HO.nil ?_
          refine HQ.nxt z1 z2 z3 z4 z5 (Sub.at [10, 7, 6, 5] rfl) ?_
          refine HP.one (i := 69) rfl fun _ _ z1 z2 z3 z4 z5 => ?_
          refine HO.v (V.pickT rfl rfl) (ltn rfl) ?_
          refine HO.nil ?_
          refine HQ.nxt z1 z2 z3 z4 z5 (Sub.at [10, 7, 6, 5] rfl) ?_
          refine HP.one (i := 70) rfl fun _ _ z1 z2 z3 z4 z5 => ?_
          refine HO.v (V.move rfl) (ltn rfl) ?_
          refine HO.nil ?_
          refine HQ.nxt z1 z2 z3 z4 z5 (Sub.at [10, 7, 6, 5] rfl) ?_
          refine HP.setT (t := 137) rfl (by rfl) ?_
          refine HP.one (i := 71) rfl fun _ _ z1 z2 z3 z4 z5 => ?_
          refine HO.gdo rfl rfl rfl rfl ?_
          refine HO.v (V.move rfl) (ltn rfl) ?_
          refine HO.nil ?_
          refine HQ.nxt z1 z2 z3 z4 z5 (Sub.at [10, 7, 6, 5] rfl) ?_
          refine HP.one (i := 72) rfl fun _ _ z1 z2 z3 z4 z5 => ?_
          refine HO.gdo rfl rfl rfl rfl ?_
          refine HO.v (V.indexAddr (N := (encI .i64)) (ys := _) Try.underlying27 sz3 rfl rfl (by first | omega | decide | simp) (by first | omega | decide | simp) (by exact Has.own (.there (.there (.there (.there (.there .here))))))) (ltn rfl) ?_
          refine HO.nil ?_
          refine HQ.nxt z1 z2 z3 z4 z5 (Sub.at [10, 7, 6, 5] rfl) ?_
          refine HP.one (i := 73) rfl fun _ _ z1 z2 z3 z4 z5 => ?_
          refine HO.gdo rfl rfl rfl rfl ?_
          refine HO.v (V.loadE (N := (encI .i64)) sc3 rfl (by exact .mk (Has.own (.there (.there (.there (.there (.there .here)))))) (rfl) rfl)) (ltn rfl) ?_
          refine HO.nil ?_
          refine HQ.nxt z1 z2 z3 z4 z5 (Sub.at [10, 7, 6, 5] rfl) ?_
          refine HP.one (i := 74) rfl fun _ _ z1 z2 z3 z4 z5 => ?_
          refine HO.gdo rfl rfl rfl rfl ?_
          refine HO.v (V.eqlI rfl rfl) (ltn rfl) ?_
          refine HO.nil ?_
          refine HQ.nxt z1 z2 z3 z4 z5 (Sub.at [10, 7, 6, 5] rfl) ?_
          refine HP.one (i := 75) rfl fun _ _ z1 z2 z3 z4 z5 => ?_
          refine HO.v (V.pickT rfl rfl) (ltn rfl) ?_
          refine HO.nil ?_
          refine HQ.nxt z1 z2 z3 z4 z5 (Sub.at [10, 7, 6, 5] rfl) ?_
          refine HP.one (i := 76) rfl fun _ _ z1 z2 z3 z4 z5 => ?_
          refine HO.v (V.move rfl) (ltn rfl) ?_
          refine HO.nil ?_
          refine HQ.nxt z1 z2 z3 z4 z5 (Sub.at [10, 7, 6, 5] rfl) ?_
          refine HP.setT (t := 143) rfl (by rfl) ?_
          refine HP.one (i := 77) rfl fun _ _ z1 z2 z3 z4 z5 => ?_
          refine HO.gdo rfl rfl rfl rfl ?_
          refine HO.v (V.move rfl) (ltn rfl) ?_
          refine HO.nil ?_
          refine HQ.nxt z1 z2 z3 z4 z5 (Sub.at [10, 7, 6, 5] rfl) ?_
          refine HP.one (i := 78) rfl fun _ _ z1 z2 z3 z4 z5 => ?_
          refine HO.v (V.pickT rfl rfl) (ltn rfl) ?_
          refine HO.nil ?_
          refine HQ.nxt z1 z2 z3 z4 z5 (Sub.at [10, 7, 6, 5] rfl) ?_
          refine HP.one (i := 79) rfl fun _ _ z1 z2 z3 z4 z5 => ?_
          refine HO.v (V.move rfl) (ltn rfl) ?_
          refine HO.nil ?_
          refine HQ.nxt z1 z2 z3 z4 z5 (Sub.at [10, 7, 6, 5] rfl) ?_
          refine HP.setT (t := 146) rfl (by rfl) ?_
          refine HP.one (i := 80) rfl fun _ _ z1 z2 z3 z4 z5 => ?_
          refine HO.gdo rfl rfl rfl rfl ?_
          refine HO.v (V.move rfl) (ltn rfl) ?_
          refine HO.nil ?_
          refine HQ.nxt z1 z2 z3 z4 z5 (Sub.at [10, 7, 6, 5] rfl) ?_
          refine HP.one (i := 81) rfl fun _ _ z1 z2 z3 z4 z5 => ?_
          refine HO.gdo rfl rfl rfl rfl ?_
          refine HO.v (V.eqlI rfl rfl) (ltn rfl) ?_
          refine HO.nil ?_
          refine HQ.nxt z1 z2 z3 z4 z5 (Sub.at [10, 7, 6, 5] rfl) ?_
          refine HP.one (i := 82) rfl fun _ _ z1 z2 z3 z4 z5 => ?_
          refine HO.v (V.pickT rfl rfl) (ltn rfl) ?_
          refine HO.nil ?_
          refine HQ.nxt z1 z2 z3 z4 z5 (Sub.at [10, 7, 6, 5] rfl) ?_
          refine HP.one (i := 83) rfl fun _ _ z1 z2 z3 z4 z5 => ?_
          refine HO.v (V.move rfl) (ltn rfl) ?_
          refine HO.nil ?_
          refine HQ.nxt z1 z2 z3 z4 z5 (Sub.at [10, 7, 6, 5] rfl) ?_
          refine HP.setT (t := 150) rfl (by rfl) ?_
          refine HP.one (i := 84) rfl fun _ _ z1 z2 z3 z4 z5 => ?_
          refine HO.gdo rfl rfl rfl rfl ?_
          refine HO.v (V.move rfl) (ltn rfl) ?_
          refine HO.nil ?_
          refine HQ.nxt z1 z2 z3 z4 z5 (Sub.at [10, 7, 6, 5] rfl) ?_
          refine HP.one (i := 85) rfl fun _ _ z1 z2 z3 z4 z5 => ?_
          refine HO.v (V.pickT rfl rfl) (ltn rfl) ?_
          refine HO.nil ?_
          refine HQ.nxt z1 z2 z3 z4 z5 (Sub.at [10, 7, 6, 5] rfl) ?_
          refine HP.one (i := 86) rfl fun _ _ z1 z2 z3 z4 z5 => ?_
          refine HO.v (V.move rfl) (ltn rfl) ?_
          refine HO.nil ?_
          refine HQ.nxt z1 z2 z3 z4 z5 (Sub.at [10, 7, 6, 5] rfl) ?_
          refine HP.setT (t := 153) rfl (by rfl) ?_
          refine HP.one (i := 87) rfl fun _ _ z1 z2 z3 z4 z5 => ?_
          refine HO.gdo rfl rfl rfl rfl ?_
          refine HO.v (V.move rfl) (ltn rfl) ?_
          refine HO.nil ?_
          refine HQ.nxt z1 z2 z3 z4 z5 (Sub.at [10, 7, 6, 5] rfl) ?_
          refine HP.one (i := 88) rfl fun _ _ z1 z2 z3 z4 z5 => ?_
          refine HO.gdo rfl rfl rfl rfl ?_
          refine HO.v (V.eqlI rfl rfl) (ltn rfl) ?_
          refine HO.nil ?_
          refine HQ.nxt z1 z2 z3 z4 z5 (Sub.at [10, 7, 6, 5] rfl) ?_
          refine HP.one (i := 89) rfl fun _ _ z1 z2 z3 z4 z5 => ?_
          refine HO.v (V.pickT rfl rfl) (ltn rfl) ?_
          refine HO.nil ?_
          refine HQ.nxt z1 z2 z3 z4 z5 (Sub.at [10, 7, 6, 5] rfl) ?_
          refine HP.one (i := 90) rfl fun _ _ z1 z2 z3 z4 z5 => ?_
          refine HO.v (V.assign rfl) (ltn rfl) ?_
          refine HO.nil ?_
          refine HQ.nxt z1 z2 z3 z4 z5 (Sub.at [10, 7, 6, 5] rfl) ?_
          refine HP.done ?_
          refine HQ.keep (.cons (t := 0) rfl (.nil)) ?_
          refine HQ.next ?_
          refine H.ret ?_
          refine HQ.end_ rfl rfl rfl rfl (.inl rfl) _ (fun a w s => res1 Try.results6 s rfl) ?_
          refine ⟨[], _, (by exact Rems.nil), ?_⟩
          exact ⟨rfl, rfl⟩
        · skip
          intro _ _ z1 z2 z3 z4 z5
          refine HO.gdo rfl rfl rfl rfl ?_
          refine HO.buildRow (encI .i64) (kqq.outs) Try.underlying27 ze3 (.cons rfl (.nil)) (.cons rfl (.nil)) (Nat.le_of_ble_eq_true rfl) (Nat.le_of_ble_eq_true rfl) (ltn rfl) ?_
          intro b100
          refine HO.nil ?_
          refine HQ.nxt z1 z2 z3 z4 z5 (Sub.at [9, 6, 5, 4] rfl) ?_
          refine HP.one (i := 32) rfl fun _ _ z1 z2 z3 z4 z5 => ?_
          refine HO.gdo rfl rfl rfl rfl ?_
          refine HO.buildRow encIn (kqq.code) Try.underlying26 ze50 (.cons rfl (.nil)) (.cons rfl (.nil)) (Nat.le_of_ble_eq_true rfl) (Nat.le_of_ble_eq_true rfl) (ltn rfl) ?_
          intro b99
          refine HO.nil ?_
          refine HQ.nxt z1 z2 z3 z4 z5 (Sub.at [10, 7, 6, 5] rfl) ?_
          refine HP.one (i := 34) rfl fun _ _ z1 z2 z3 z4 z5 => ?_
          refine HO.gdo rfl rfl rfl rfl ?_
          refine HO.call ca11 (.cons rfl (.cons rfl (.cons rfl (.nil)))) (same14_w kqq _ _ _ _ _ _ _ _ (by decide) (by decide)) (by exact Rems.nil) (by (refine Reads.row (.tail _ (.tail _ (.tail _ (.tail _ (.tail _ (.tail _ (.tail _ (.tail _ (.head _))))))))) ?_); (refine Reads.row (.tail _ (.tail _ (.tail _ (.tail _ (.tail _ (.tail _ (.tail _ (.tail _ (.tail _ (.head _)))))))))) ?_); (refine Reads.row (.head _) ?_); (refine Reads.row (.tail _ (.head _)) ?_); exact Reads.nil) (ltn rfl) ?_
          rintro v101 L101 ⟨rfl, rfl⟩
          dsimp only [List.nil_append, List.cons_append]
          refine HO.nil ?_
          refine HQ.nxt z1 z2 z3 z4 z5 (Sub.at [10, 7, 6, 5] rfl) ?_
          refine HP.one (i := 35) rfl fun _ _ z1 z2 z3 z4 z5 => ?_
          refine HO.v (V.pickT rfl rfl) (ltn rfl) ?_
          refine HO.nil ?_
          refine HQ.nxt z1 z2 z3 z4 z5 (Sub.at [10, 7, 6, 5] rfl) ?_
          refine HP.one (i := 36) rfl fun _ _ z1 z2 z3 z4 z5 => ?_
          refine HO.v (V.move rfl) (ltn rfl) ?_
          refine HO.nil ?_
          refine HQ.nxt z1 z2 z3 z4 z5 (Sub.at [10, 7, 6, 5] rfl) ?_
          refine HP.setT (t := 103) rfl (by rfl) ?_
          refine HP.one (i := 37) rfl fun _ _ z1 z2 z3 z4 z5 => ?_
          refine HO.gdo rfl rfl rfl rfl ?_
          refine HO.v (V.move rfl) (ltn rfl) ?_
          refine HO.nil ?_
          refine HQ.nxt z1 z2 z3 z4 z5 (Sub.at [10, 7, 6, 5] rfl) ?_
          refine HP.one (i := 38) rfl fun _ _ z1 z2 z3 z4 z5 => ?_
          refine HO.gdo rfl rfl rfl rfl ?_
          refine HO.v (V.len Try.underlying27 rfl) (ltn rfl) ?_
          refine HO.nil ?_
          refine HQ.nxt z1 z2 z3 z4 z5 (Sub.at [10, 7, 6, 5] rfl) ?_
          refine HP.one (i := 39) rfl fun _ _ z1 z2 z3 z4 z5 => ?_
          refine HO.gdo rfl rfl rfl rfl ?_
          refine HO.v (V.eqlI rfl rfl) (ltn rfl) ?_
          refine HO.nil ?_
          refine HQ.nxt z1 z2 z3 z4 z5 (Sub.at [10, 7, 6, 5] rfl) ?_
          refine HP.one (i := 40) rfl fun _ _ z1 z2 z3 z4 z5 => ?_
          refine HO.v (V.pickT rfl rfl) (ltn rfl) ?_
          refine HO.nil ?_
          refine HQ.nxt z1 z2 z3 z4 z5 (Sub.at [10, 7, 6, 5] rfl) ?_
          refine HP.one (i := 41) rfl fun _ _ z1 z2 z3 z4 z5 => ?_
          refine HO.v (V.move rfl) (ltn rfl) ?_
          refine HO.nil ?_
          refine HQ.nxt z1 z2 z3 z4 z5 (Sub.at [10, 7, 6, 5] rfl) ?_
          refine HP.setT (t := 108) rfl (by rfl) ?_
          refine HP.one (i := 42) rfl fun _ _ z1 z2 z3 z4 z5 => ?_
          refine HO.gdo rfl rfl rfl rfl ?_
          refine HO.v (V.move rfl) (ltn rfl) ?_
          refine HO.nil ?_
          refine HQ.nxt z1 z2 z3 z4 z5 (Sub.at [10, 7, 6, 5] rfl) ?_
          refine HP.one (i := 43) rfl fun _ _ z1 z2 z3 z4 z5 => ?_
          refine HO.gdo rfl rfl rfl rfl ?_
          refine HO.v (V.indexAddr (N := (encI .i64)) (ys := _) Try.underlying27 sz3 rfl rfl (by first | omega | decide | simp) (by first | omega | decide | simp) (by exact Has.own (.there (.there (.there (.there (.there (.there .here)))))))) (ltn rfl) ?_
          refine HO.nil ?_
          refine HQ.nxt z1 z2 z3 z4 z5 (Sub.at [10, 7, 6, 5] rfl) ?_
          refine HP.one (i := 44) rfl fun _ _ z1 z2 z3 z4 z5 => ?_
          refine HO.gdo rfl rfl rfl rfl ?_
          refine HO.v (V.loadE (N := (encI .i64)) sc3 rfl (by exact .mk (Has.own (.there (.there (.there (.there (.there (.there .here))))))) (rfl) rfl)) (ltn rfl) ?_
          refine HO.nil ?_
          refine HQ.nxt z1 z2 z3 z4 z5 (Sub.at [10, 7, 6, 5] rfl) ?_
          refine HP.one (i := 45) rfl fun _ _ z1 z2 z3 z4 z5 => ?_
          refine HO.gdo rfl rfl rfl rfl ?_
          refine HO.v (V.eqlI rfl rfl) (ltn rfl) ?_
          refine HO.nil ?_
          refine HQ.nxt z1 z2 z3 z4 z5 (Sub.at [10, 7, 6, 5] rfl) ?_
          refine HP.one (i := 46) rfl fun _ _ z1 z2 z3 z4 z5 => ?_
          refine HO.v (V.pickT rfl rfl) (ltn rfl) ?_
          refine HO.nil ?_
          refine HQ.nxt z1 z2 z3 z4 z5 (Sub.at [10, 7, 6, 5] rfl) ?_
          refine HP.one (i := 47) rfl fun _ _ z1 z2 z3 z4 z5 => ?_
          refine HO.v (V.move rfl) (ltn rfl) ?_
          refine HO.nil ?_
          refine HQ.nxt z1 z2 z3 z4 z5 (Sub.at [10, 7, 6, 5] rfl) ?_
          refine HP.setT (t := 114) rfl (by rfl) ?_
          refine HP.one (i := 48) rfl fun _ _ z1 z2 z3 z4 z5 => ?_
          refine HO.gdo rfl rfl rfl rfl ?_
          refine HO.v (V.move rfl) (ltn rfl) ?_
          refine HO.nil ?_
          refine HQ.nxt z1 z2 z3 z4 z5 (Sub.at [10, 7, 6, 5] rfl) ?_
          refine HP.one (i := 49) rfl fun _ _ z1 z2 z3 z4 z5 => ?_
          refine HO.gdo rfl rfl rfl rfl ?_
          refine HO.v (V.indexAddr (N := (encI .i64)) (ys := _) Try.underlying27 sz3 rfl rfl (by first | omega | decide | simp) (by first | omega | decide | simp) (by exact Has.own (.there (.there (.there (.there (.there (.there .here)))))))) (ltn rfl) ?_
          refine HO.nil ?_
          refine HQ.nxt z1 z2 z3 z4 z5 (Sub.at [10, 7, 6, 5] rfl) ?_
          refine HP.one (i := 50) rfl fun _ _ z1 z2 z3 z4 z5 => ?_
          refine HO.gdo rfl rfl rfl rfl ?_
          refine HO.v (V.loadE (N := (encI .i64)) sc3 rfl (by exact .mk (Has.own (.there (.there (.there (.there (.there (.there .here))))))) (rfl) rfl)) (ltn rfl) ?_
          refine HO.nil ?_
          refine HQ.nxt z1 z2 z3 z4 z5 (Sub.at [10, 7, 6, 5] rfl) ?_
          refine HP.one (i := 51) rfl fun _ _ z1 z2 z3 z4 z5 => ?_
          refine HO.gdo rfl rfl rfl rfl ?_
          refine HO.v (V.eqlI rfl rfl) (ltn rfl) ?_
          refine HO.nil ?_
          refine HQ.nxt z1 z2 z3 z4 z5 (Sub.at [10, 7, 6, 5] rfl) ?_
          refine HP.one (i := 52) rfl fun _ _ z1 z2 z3 z4 z5 => ?_
          refine HO.v (V.pickT rfl rfl) (ltn rfl) ?_
          refine HO.nil ?_
          refine HQ.nxt z1 z2 z3 z4 z5 (Sub.at [10, 7, 6, 5] rfl) ?_
          refine HP.one (i := 53) rfl fun _ _ z1 z2 z3 z4 z5 => ?_
          refine HO.v (V.move rfl) (ltn rfl) ?_
          refine HO.nil ?_
          refine HQ.nxt z1 z2 z3 z4 z5 (Sub.at [10, 7, 6, 5] rfl) ?_
          refine HP.setT (t := 120) rfl (by rfl) ?_
          refine HP.one (i := 54) rfl fun _ _ z1 z2 z3 z4 z5 => ?_
          refine HO.gdo rfl rfl rfl rfl ?_
          refine HO.v (V.move rfl) (ltn rfl) ?_
          refine HO.nil ?_
          refine HQ.nxt z1 z2 z3 z4 z5 (Sub.at [10, 7, 6, 5] rfl) ?_
          refine HP.one (i := 55) rfl fun _ _ z1 z2 z3 z4 z5 => ?_
          refine HO.gdo rfl rfl rfl rfl ?_
          refine HO.v (V.indexAddr (N := (encI .i64)) (ys := _) Try.underlying27 sz3 rfl rfl (by first | omega | decide | simp) (by first | omega | decide | simp) (by exact Has.own (.there (.there (.there (.there (.there (.there .here)))))))) (ltn rfl) ?_
          refine HO.nil ?_
          refine HQ.nxt z1 z2 z3 z4 z5 (Sub.at [10, 7, 6, 5] rfl) ?_
          refine HP.one (i := 56) rfl fun _ _ z1 z2 z3 z4 z5 => ?_
          refine HO.gdo rfl rfl rfl rfl ?_
          refine HO.v (V.loadE (N := (encI .i64)) sc3 rfl (by exact .mk (Has.own (.there (.there (.there (.there (.there (.there .here))))))) (rfl) rfl)) (ltn rfl) ?_
          refine HO.nil ?_
          refine HQ.nxt z1 z2 z3 z4 z5 (Sub.at [10, 7, 6, 5] rfl) ?_
          refine HP.one (i := 57) rfl fun _ _ z1 z2 z3 z4 z5 => ?_
          refine HO.gdo rfl rfl rfl rfl ?_
          refine HO.v (V.eqlI rfl rfl) (ltn rfl) ?_
          refine HO.nil ?_
          refine HQ.nxt z1 z2 z3 z4 z5 (Sub.at [10, 7, 6, 5] rfl) ?_
          refine HP.one (i := 58) rfl fun _ _ z1 z2 z3 z4 z5 => ?_
          refine HO.v (V.pickT rfl rfl) (ltn rfl) ?_
          refine HO.nil ?_
          refine HQ.nxt z1 z2 z3 z4 z5 (Sub.at [10, 7, 6, 5] rfl) ?_
          refine HP.one (i := 59) rfl fun _ _ z1 z2 z3 z4 z5 => ?_
          refine HO.v (V.move rfl) (ltn rfl) ?_
          refine HO.nil ?_
          refine HQ.nxt z1 z2 z3 z4 z5 (Sub.at [10, 7, 6, 5] rfl) ?_
          refine HP.setT (t := 126) rfl (by rfl) ?_
          refine HP.one (i := 60) rfl fun _ _ z1 z2 z3 z4 z5 => ?_
          refine HO.gdo rfl rfl rfl rfl ?_
          refine HO.v (V.move rfl) (ltn rfl) ?_
          refine HO.nil ?_
          refine HQ.nxt z1 z2 z3 z4 z5 (Sub.at [10, 7, 6, 5] rfl) ?_
          refine HP.one (i := 61) rfl fun _ _ z1 z2 z3 z4 z5 => ?_
          refine HO.gdo rfl rfl rfl rfl ?_
          refine HO.v (V.len Try.underlying27 rfl) (ltn rfl) ?_
          refine HO.nil ?_
          refine HQ.nxt z1 z2 z3 z4 z5 (Sub.at [10, 7, 6, 5] rfl) ?_
          refine HP.one (i := 62) rfl fun _ _ z1 z2 z3 z4 z5 => ?_
          refine HO.gdo rfl rfl rfl rfl ?_
          refine HO.v (V.eqlI rfl rfl) (ltn rfl) ?_
          refine HO.nil ?_
          refine HQ.nxt z1 z2 z3 z4 z5 (Sub.at [10, 7, 6, 5] rfl) ?_
          refine HP.one (i := 63) rfl fun _ _ z1 z2 z3 z4 z5 => ?_
          refine HO.v (V.pickT rfl rfl) (ltn rfl) ?_
          refine HO.nil ?_
          refine HQ.nxt z1 z2 z3 z4 z5 (Sub.at [10, 7, 6, 5] rfl) ?_
          refine HP.one (i := 64) rfl fun _ _ z1 z2 z3 z4 z5 => ?_
          refine HO.v (V.move rfl) (ltn rfl) ?_
          refine HO.nil ?_
          refine HQ.nxt z1 z2 z3 z4 z5 (Sub.at [10, 7, 6, 5] rfl) ?_
          refine HP.setT (t := 131) rfl (by rfl) ?_
          refine HP.one (i := 65) rfl fun _ _ z1 z2 z3 z4 z5 => ?_
          refine HO.gdo rfl rfl rfl rfl ?_
          refine HO.v (V.move rfl) (ltn rfl) ?_
          refine HO.nil ?_
          refine HQ.nxt z1 z2 z3 z4 z5 (Sub.at [10, 7, 6, 5] rfl) ?_
          refine HP.one (i := 66) rfl fun _ _ z1 z2 z3 z4 z5 => ?_
          refine HO.gdo rfl rfl rfl rfl ?_
          refine HO.v (V.indexAddr (N := (encI .i64)) (ys := _) Try.underlying27 sz3 rfl rfl (by first | omega | decide | simp) (by first | omega | decide | simp) (by exact Has.own (.there (.there (.there (.there (.there .here))))))) (ltn rfl) ?_
          refine HO.nil ?_
          refine HQ.nxt z1 z2 z3 z4 z5 (Sub.at [10, 7, 6, 5] rfl) ?_
          refine HP.one (i := 67) rfl fun _ _ z1 z2 z3 z4 z5 => ?_
          refine HO.gdo rfl rfl rfl rfl ?_
          refine HO.v (V.loadE (N := (encI .i64)) sc3 rfl (by exact .mk (Has.own (.there (.there (.there (.there (.there .here)))))) (rfl) rfl)) (ltn rfl) ?_
          refine HO.nil ?_
          refine HQ.nxt z1 z2 z3 z4 z5 (Sub.at [10, 7, 6, 5] rfl) ?_
          refine HP.one (i := 68) rfl fun _ _ z1 z2 z3 z4 z5 => ?_
          refine HO.gdo rfl rfl rfl rfl ?_
          refine HO.v (V.eqlI rfl rfl) (ltn rfl) ?_
          refine HO.nil ?_
          refine HQ.nxt z1 z2 z3 z4 z5 (Sub.at [10, 7, 6, 5] rfl) ?_
          refine HP.one (i := 69) rfl fun _ _ z1 z2 z3 z4 z5 => ?_
          refine HO.v (V.pickT rfl rfl) (ltn rfl) ?_
          refine HO.nil ?_
          refine HQ.nxt z1 z2 z3 z4 z5 (Sub.at [10, 7, 6, 5] rfl) ?_
          refine HP.one (i := 70) rfl fun _ _ z1 z2 z3 z4 z5 => ?_
          refine HO.v (V.move rfl) (ltn rfl) ?_
          refine HO.nil ?_
          refine HQ.nxt z1 z2 z3 z4 z5 (Sub.at [10, 7, 6, 5] rfl) ?_
          refine HP.setT (t := 137) rfl (by rfl) ?_
          refine HP.one (i := 71) rfl fun _ _ z1 z2 z3 z4 z5 => ?_
          refine HO.gdo rfl rfl rfl rfl ?_
          refine HO.v (V.move rfl) (ltn rfl) ?_
          refine HO.nil ?_
          refine HQ.nxt z1 z2 z3 z4 z5 (Sub.at [10, 7, 6, 5] rfl) ?_
          refine HP.one (i := 72) rfl fun _ _ z1 z2 z3 z4 z5 => ?_
          refine HO.gdo rfl rfl rfl rfl ?_
          refine HO.v (V.indexAddr (N := (encI .i64)) (ys := _) Try.underlying27 sz3 rfl rfl (by first | omega | decide | simp) (by first | omega | decide | simp) (by exact Has.own (.there (.there (.there (.there (.there .here))))))) (ltn rfl) ?_
          refine HO.nil ?_
          refine HQ.nxt z1 z2 z3 z4 z5 (Sub.at [10, 7, 6, 5] rfl) ?_
          refine HP.one (i := 73) rfl fun _ _ z1 z2 z3 z4 z5 => ?_
          refine HO.gdo rfl rfl rfl rfl ?_
          refine HO.v (V.loadE (N := (encI .i64)) sc3 rfl (by exact .mk (Has.own (.there (.there (.there (.there (.there .here)))))) (rfl) rfl)) (ltn rfl) ?_
          refine HO.nil ?_
          refine HQ.nxt z1 z2 z3 z4 z5 (Sub.at [10, 7, 6, 5] rfl) ?_
          refine HP.one (i := 74) rfl fun _ _ z1 z2 z3 z4 z5 => ?_
          refine HO.gdo rfl rfl rfl rfl ?_
          refine HO.v (V.eqlI rfl rfl) (ltn rfl) ?_
          refine HO.nil ?_
          refine HQ.nxt z1 z2 z3 z4 z5 (Sub.at [10, 7, 6, 5] rfl) ?_
          refine HP.one (i := 75) rfl fun _ _ z1 z2 z3 z4 z5 => ?_
          refine HO.v (V.pickT rfl rfl) (ltn rfl) ?_
          refine HO.nil ?_
          refine HQ.nxt z1 z2 z3 z4 z5 (Sub.at [10, 7, 6, 5] rfl) ?_
          refine HP.one (i := 76) rfl fun _ _ z1 z2 z3 z4 z5 => ?_
          refine HO.v (V.move rfl) (ltn rfl) ?_
          refine HO.nil ?_
          refine HQ.nxt z1 z2 z3 z4 z5 (Sub.at [10, 7, 6, 5] rfl) ?_
          refine HP.setT (t := 143) rfl (by rfl) ?_
          refine HP.one (i := 77) rfl fun _ _ z1 z2 z3 z4 z5 => ?_
          refine HO.gdo rfl rfl rfl rfl ?_
          refine HO.v (V.move rfl) (ltn rfl) ?_
          refine HO.nil ?_
          refine HQ.nxt z1 z2 z3 z4 z5 (Sub.at [10, 7, 6, 5] rfl) ?_
          refine HP.one (i := 78) rfl fun _ _ z1 z2 z3 z4 z5 => ?_
          refine HO.v (V.pickT rfl rfl) (ltn rfl) ?_
          refine HO.nil ?_
          refine HQ.nxt z1 z2 z3 z4 z5 (Sub.at [10, 7, 6, 5] rfl) ?_
          refine HP.one (i := 79) rfl fun _ _ z1 z2 z3 z4 z5 => ?_
          refine HO.v (V.move rfl) (ltn rfl) ?_
          refine HO.nil ?_
          refine HQ.nxt z1 z2 z3 z4 z5 (Sub.at [10, 7, 6, 5] rfl) ?_
          refine HP.setT (t := 146) rfl (by rfl) ?_
          refine HP.one (i := 80) rfl fun _ _ z1 z2 z3 z4 z5 => ?_
          refine HO.gdo rfl rfl rfl rfl ?_
          refine HO.v (V.move rfl) (ltn rfl) ?_
          refine HO.nil ?_
          refine HQ.nxt z1 z2 z3 z4 z5 (Sub.at [10, 7, 6, 5] rfl) ?_
          refine HP.one (i := 81) rfl fun _ _ z1 z2 z3 z4 z5 => ?_
          refine HO.gdo rfl rfl rfl rfl ?_
          refine HO.v (V.eqlI rfl rfl) (ltn rfl) ?_
          refine HO.nil ?_
          refine HQ.nxt z1 z2 z3 z4 z5 (Sub.at [10, 7, 6, 5] rfl) ?_
          refine HP.one (i := 82) rfl fun _ _ z1 z2 z3 z4 z5 => ?_
          refine HO.v (V.pickT rfl rfl) (ltn rfl) ?_
          refine HO.nil ?_
          refine HQ.nxt z1 z2 z3 z4 z5 (Sub.at [10, 7, 6, 5] rfl) ?_
          refine HP.one (i := 83) rfl fun _ _ z1 z2 z3 z4 z5 => ?_
          refine HO.v (V.move rfl) (ltn rfl) ?_
          refine HO.nil ?_
          refine HQ.nxt z1 z2 z3 z4 z5 (Sub.at [10, 7, 6, 5] rfl) ?_
          refine HP.setT (t := 150) rfl (by rfl) ?_
          refine HP.one (i := 84) rfl fun _ _ z1 z2 z3 z4 z5 => ?_
          refine HO.gdo rfl rfl rfl rfl ?_
          refine HO.v (V.move rfl) (ltn rfl) ?_
          refine HO.nil ?_
          refine HQ.nxt z1 z2 z3 z4 z5 (Sub.at [10, 7, 6, 5] rfl) ?_
          refine HP.one (i := 85) rfl fun _ _ z1 z2 z3 z4 z5 => ?_
          refine HO.v (V.pickT rfl rfl) (ltn rfl) ?_
          refine HO.nil ?_
          refine HQ.nxt z1 z2 z3 z4 z5 (Sub.at [10, 7, 6, 5] rfl) ?_
          refine HP.one (i := 86) rfl fun _ _ z1 z2 z3 z4 z5 => ?_
          refine HO.v (V.move rfl) (ltn rfl) ?_
          refine HO.nil ?_
          refine HQ.nxt z1 z2 z3 z4 z5 (Sub.at [10, 7, 6, 5] rfl) ?_
          refine HP.setT (t := 153) rfl (by rfl) ?_
          refine HP.one (i := 87) rfl fun _ _ z1 z2 z3 z4 z5 => ?_
          refine HO.gdo rfl rfl rfl rfl ?_
          refine HO.v (V.move rfl) (ltn rfl) ?_
          refine HO.nil ?_
          refine HQ.nxt z1 z2 z3 z4 z5 (Sub.at [10, 7, 6, 5] rfl) ?_
          refine HP.one (i := 88) rfl fun _ _ z1 z2 z3 z4 z5 => ?_
          refine HO.gdo rfl rfl rfl rfl ?_
          refine HO.v (V.eqlI rfl rfl) (ltn rfl) ?_
          refine HO.nil ?_
          refine HQ.nxt z1 z2 z3 z4 z5 (Sub.at [10, 7, 6, 5] rfl) ?_
          refine HP.one (i := 89) rfl fun _ _ z1 z2 z3 z4 z5 => ?_
          refine HO.v (V.pickT rfl rfl) (ltn rfl) ?_
          refine HO.nil ?_
          refine HQ.nxt z1 z2 z3 z4 z5 (Sub.at [10, 7, 6, 5] rfl) ?_
          refine HP.one (i := 90) rfl fun _ _ z1 z2 z3 z4 z5 => ?_
          refine HO.v (V.assign rfl) (ltn rfl) ?_
          refine HO.nil ?_
          refine HQ.nxt z1 z2 z3 z4 z5 (Sub.at [10, 7, 6, 5] rfl) ?_
          refine HP.done ?_
          refine HQ.keep (.cons (t := 0) rfl (.nil)) ?_
          refine HQ.next ?_
          refine H.ret ?_
          refine HQ.end_ rfl rfl rfl rfl (.inl rfl) _ (fun a w s => res1 Try.results6 s rfl) ?_
          refine ⟨[], _, (by exact Rems.nil), ?_⟩
          exact ⟨rfl, rfl⟩
      · skip
        intro _ _ z1 z2 z3 z4 z5
        refine HO.gdo rfl rfl rfl rfl ?_
        refine HO.buildRow (encI .i64) (kqq.outs) Try.underlying27 ze3 (.cons rfl (.nil)) (.cons rfl (.nil)) (Nat.le_of_ble_eq_true rfl) (Nat.le_of_ble_eq_true rfl) (ltn rfl) ?_
        intro b100
        refine HO.nil ?_
        refine HQ.nxt z1 z2 z3 z4 z5 (Sub.at [9, 6, 5, 4] rfl) ?_
        refine HP.one (i := 31) rfl fun _ _ z1 z2 z3 z4 z5 => ?_
        refine HO.gdo rfl rfl rfl rfl ?_
        refine HO.callV ca13 rfl (.cons rfl (.cons rfl (.cons rfl (.nil)))) (add14_w _ _ _) (by exact Rems.nil) (by exact Reads.nil) (fun _ e => by cases e; exact (ltn rfl)) ?_
        rintro v98 L98 ⟨rfl, rfl⟩
        dsimp only [List.nil_append, List.cons_append]
        refine HO.nil ?_
        refine HQ.nxt z1 z2 z3 z4 z5 (Sub.at [9, 6, 5, 4] rfl) ?_
        refine HP.one (i := 32) rfl fun _ _ z1 z2 z3 z4 z5 => ?_
        refine HO.gdo rfl rfl rfl rfl ?_
        refine HO.buildRow encIn (kqq.code) Try.underlying26 ze50 (.cons rfl (.nil)) (.cons rfl (.nil)) (Nat.le_of_ble_eq_true rfl) (Nat.le_of_ble_eq_true rfl) (ltn rfl) ?_
        intro b99
        refine HO.nil ?_
        refine HQ.nxt z1 z2 z3 z4 z5 (Sub.at [10, 7, 6, 5] rfl) ?_
        refine HP.one (i := 34) rfl fun _ _ z1 z2 z3 z4 z5 => ?_
        refine HO.gdo rfl rfl rfl rfl ?_
        refine HO.call ca11 (.cons rfl (.cons rfl (.cons rfl (.nil)))) (same14_w kqq _ _ _ _ _ _ _ _ (by decide) (by decide)) (by exact Rems.nil) (by (refine Reads.row (.tail _ (.tail _ (.tail _ (.tail _ (.tail _ (.tail _ (.tail _ (.tail _ (.head _))))))))) ?_); (refine Reads.row (.tail _ (.tail _ (.tail _ (.tail _ (.tail _ (.tail _ (.tail _ (.tail _ (.tail _ (.head _)))))))))) ?_); (refine Reads.row (.head _) ?_); (refine Reads.row (.tail _ (.head _)) ?_); exact Reads.nil) (ltn rfl) ?_
        rintro v101 L101 ⟨rfl, rfl⟩
        dsimp only [List.nil_append, List.cons_append]
        refine HO.nil ?_
        refine HQ.nxt z1 z2 z3 z4 z5 (Sub.at [10, 7, 6, 5] rfl) ?_
        refine HP.one (i := 35) rfl fun _ _ z1 z2 z3 z4 z5 => ?_
        refine HO.v (V.pickT rfl rfl) (ltn rfl) ?_
        refine HO.nil ?_
        refine HQ.nxt z1 z2 z3 z4 z5 (Sub.at [10, 7, 6, 5] rfl) ?_
        refine HP.one (i := 36) rfl fun _ _ z1 z2 z3 z4 z5 => ?_
        refine HO.v (V.move rfl) (ltn rfl) ?_
        refine HO.nil ?_
        refine HQ.nxt z1 z2 z3 z4 z5 (Sub.at [10, 7, 6, 5] rfl) ?_
        refine HP.setT (t := 103) rfl (by rfl) ?_
        refine HP.one (i := 37) rfl fun _ _ z1 z2 z3 z4 z5 => ?_
        refine HO.gdo rfl rfl rfl rfl ?_
        refine HO.v (V.move rfl) (ltn rfl) ?_
        refine HO.nil ?_
        refine HQ.nxt z1 z2 z3 z4 z5 (Sub.at [10, 7, 6, 5] rfl) ?_
        refine HP.one (i := 38) rfl fun _ _ z1 z2 z3 z4 z5 => ?_
        refine HO.gdo rfl rfl rfl rfl ?_
        refine HO.v (V.len Try.underlying27 rfl) (ltn rfl) ?_
        refine HO.nil ?_
        refine HQ.nxt z1 z2 z3 z4 z5 (Sub.at [10, 7, 6, 5] rfl) ?_
        refine HP.one (i := 39) rfl fun _ _ z1 z2 z3 z4 z5 => ?_
        refine HO.gdo rfl rfl rfl rfl ?_
        refine HO.v (V.eqlI rfl rfl) (ltn rfl) ?_
        refine HO.nil ?_
        refine HQ.nxt z1 z2 z3 z4 z5 (Sub.at [10, 7, 6, 5] rfl) ?_
        refine HP.one (i := 40) rfl fun _ _ z1 z2 z3 z4 z5 => ?_
        refine HO.v (V.pickT rfl rfl) (ltn rfl) ?_
        refine HO.nil ?_
        refine HQ.nxt z1 z2 z3 z4 z5 (Sub.at [10, 7, 6, 5] rfl) ?_
        refine HP.one (i := 41) rfl fun _ _ z1 z2 z3 z4 z5 => ?_
        refine HO.v (V.move rfl) (ltn rfl) ?_
        refine HO.nil ?_
        refine HQ.nxt z1 z2 z3 z4 z5 (Sub.at [10, 7, 6, 5] rfl) ?_
        refine HP.setT (t := 108) rfl (by rfl) ?_
        refine HP.one (i := 42) rfl fun _ _ z1 z2 z3 z4 z5 => ?_
        refine HO.gdo rfl rfl rfl rfl ?_
        refine HO.v (V.move rfl) (ltn rfl) ?_
        refine HO.nil ?_
        refine HQ.nxt z1 z2 z3 z4 z5 (Sub.at [10, 7, 6, 5] rfl) ?_
        refine HP.one (i := 43) rfl fun _ _ z1 z2 z3 z4 z5 => ?_
        refine HO.gdo rfl rfl rfl rfl ?_
        refine HO.v (V.indexAddr (N := (encI .i64)) (ys := _) Try.underlying27 sz3 rfl rfl (by first | omega | decide | simp) (by first | omega | decide | simp) (by exact Has.own (.there (.there (.there (.there (.there (.there .here)))))))) (ltn rfl) ?_
        refine HO.nil ?_
        refine HQ.nxt z1 z2 z3 z4 z5 (Sub.at [10, 7, 6, 5] rfl) ?_
        refine HP.one (i := 44) rfl fun _ _ z1 z2 z3 z4 z5 => ?_
        refine HO.gdo rfl rfl rfl rfl ?_
        refine HO.v (V.loadE (N := (encI .i64)) sc3 rfl (by exact .mk (Has.own (.there (.there (.there (.there (.there (.there .here))))))) (rfl) rfl)) (ltn rfl) ?_
        refine HO.nil ?_
        refine HQ.nxt z1 z2 z3 z4 z5 (Sub.at [10, 7, 6, 5] rfl) ?_
        refine HP.one (i := 45) rfl fun _ _ z1 z2 z3 z4 z5 => ?_
        refine HO.gdo rfl rfl rfl rfl ?_
        refine HO.v (V.eqlI rfl rfl) (ltn rfl) ?_
        refine HO.nil ?_
        refine HQ.nxt z1 z2 z3 z4 z5 (Sub.at [10, 7, 6, 5] rfl) ?_
        refine HP.one (i := 46) rfl fun _ _ z1 z2 z3 z4 z5 => ?_
        refine HO.v (V.pickT rfl rfl) (ltn rfl) ?_
        refine HO.nil ?_
        refine HQ.nxt z1 z2 z3 z4 z5 (Sub.at [10, 7, 6, 5] rfl) ?_
        refine HP.one (i := 47) rfl fun _ _ z1 z2 z3 z4 z5 => ?_
        refine HO.v (V.move rfl) (ltn rfl) ?_
        refine HO.nil ?_
        refine HQ.nxt z1 z2 z3 z4 z5 (Sub.at [10, 7, 6, 5] rfl) ?_
        refine HP.setT (t := 114) rfl (by rfl) ?_
        refine HP.one (i := 48) rfl fun _ _ z1 z2 z3 z4 z5 => ?_
        refine HO.gdo rfl rfl rfl rfl ?_
        refine HO.v (V.move rfl) (ltn rfl) ?_
        refine HO.nil ?_
        refine HQ.nxt z1 z2 z3 z4 z5 (Sub.at [10, 7, 6, 5] rfl) ?_
        refine HP.one (i := 49) rfl fun _ _ z1 z2 z3 z4 z5 => ?_
        refine HO.gdo rfl rfl rfl rfl ?_
        refine HO.v (V.indexAddr (N := (encI .i64)) (ys := _) Try.underlying27 sz3 rfl rfl (by first | omega | decide | simp) (by first | omega | decide | simp) (by exact Has.own (.there (.there (.there (.there (.there (.there .here)))))))) (ltn rfl) ?_
        refine HO.nil ?_
        refine HQ.nxt z1 z2 z3 z4 z5 (Sub.at [10, 7, 6, 5] rfl) ?_
        refine HP.one (i := 50) rfl fun _ _ z1 z2 z3 z4 z5 => ?_
        refine HO.gdo rfl rfl rfl rfl ?_
        refine HO.v (V.loadE (N := (encI .i64)) sc3 rfl (by exact .mk (Has.own (.there (.there (.there (.there (.there (.there .here))))))) (rfl) rfl)) (ltn rfl) ?_
        refine HO.nil ?_
        refine HQ.nxt z1 z2 z3 z4 z5 (Sub.at [10, 7, 6, 5] rfl) ?_
        refine HP.one (i := 51) rfl fun _ _ z1 z2 z3 z4 z5 => ?_
        refine HO.gdo rfl rfl rfl rfl ?_
        refine HO.v (V.eqlI rfl rfl) (ltn rfl) ?_
        refine HO.nil ?_
        refine HQ.nxt z1 z2 z3 z4 z5 (Sub.at [10, 7, 6, 5] rfl) ?_
        refine HP.one (i := 52) rfl fun _ _ z1 z2 z3 z4 z5 => ?_
        refine HO.v (V.pickT rfl rfl) (ltn rfl) ?_
        refine HO.nil ?_
        refine HQ.nxt z1 z2 z3 z4 z5 (Sub.at [10, 7, 6, 5] rfl) ?_
        refine HP.one (i := 53) rfl fun _ _ z1 z2 z3 z4 z5 => ?_
        refine HO.v (V.move rfl) (ltn rfl) ?_
        refine HO.nil ?_
        refine HQ.nxt z1 z2 z3 z4 z5 (Sub.at [10, 7, 6, 5] rfl) ?_
        refine HP.setT (t := 120) rfl (by rfl) ?_
        refine HP.one (i := 54) rfl fun _ _ z1 z2 z3 z4 z5 => ?_
        refine HO.gdo rfl rfl rfl rfl ?_
        refine HO.v (V.move rfl) (ltn rfl) ?_
        refine HO.nil ?_
        refine HQ.nxt z1 z2 z3 z4 z5 (Sub.at [10, 7, 6, 5] rfl) ?_
        refine HP.one (i := 55) rfl fun _ _ z1 z2 z3 z4 z5 => ?_
        refine HO.gdo rfl rfl rfl rfl ?_
        refine HO.v (V.indexAddr (N := (encI .i64)) (ys := _) Try.underlying27 sz3 rfl rfl (by first | omega | decide | simp) (by first | omega | decide | simp) (by exact Has.own (.there (.there (.there (.there (.there (.there .here)))))))) (ltn rfl) ?_
        refine HO.nil ?_
        refine HQ.nxt z1 z2 z3 z4 z5 (Sub.at [10, 7, 6, 5] rfl) ?_
        refine HP.one (i := 56) rfl fun _ _ z1 z2 z3 z4 z5 => ?_
        refine HO.gdo rfl rfl rfl rfl ?_
        refine HO.v (V.loadE (N := (encI .i64)) sc3 rfl (by exact .mk (Has.own (.there (.there (.there (.there (.there (.there .here))))))) (rfl) rfl)) (ltn rfl) ?_
        refine HO.nil ?_
        refine HQ.nxt z1 z2 z3 z4 z5 (Sub.at [10, 7, 6, 5] rfl) ?_
        refine HP.one (i := 57) rfl fun _ _ z1 z2 z3 z4 z5 => ?_
        refine HO.gdo rfl rfl rfl rfl ?_
        refine HO.v (V.eqlI rfl rfl) (ltn rfl) ?_
        refine HO.nil ?_
        refine HQ.nxt z1 z2 z3 z4 z5 (Sub.at [10, 7, 6, 5] rfl) ?_
        refine HP.one (i := 58) rfl fun _ _ z1 z2 z3 z4 z5 => ?_
        refine HO.v (V.pickT rfl rfl) (ltn rfl) ?_
        refine HO.nil ?_
        refine HQ.nxt z1 z2 z3 z4 z5 (Sub.at [10, 7, 6, 5] rfl) ?_
        refine HP.one (i := 59) rfl fun _ _ z1 z2 z3 z4 z5 => ?_
        refine HO.v (V.move rfl) (ltn rfl) ?_
        refine HO.nil ?_
        refine HQ.nxt z1 z2 z3 z4 z5 (Sub.at [10, 7, 6, 5] rfl) ?_
        refine HP.setT (t := 126) rfl (by rfl) ?_
        refine HP.one (i := 60) rfl fun _ _ z1 z2 z3 z4 z5 => ?_
        refine HO.gdo rfl rfl rfl rfl ?_
        refine HO.v (V.move rfl) (ltn rfl) ?_
        refine HO.nil ?_
        refine HQ.nxt z1 z2 z3 z4 z5 (Sub.at [10, 7, 6, 5] rfl) ?_
        refine HP.one (i := 61) rfl fun _ _ z1 z2 z3 z4 z5 => ?_
        refine HO.gdo rfl rfl rfl rfl ?_
        refine HO.v (V.len Try.underlying27 rfl) (ltn rfl) ?_
        refine HO.nil ?_
        refine HQ.nxt z1 z2 z3 z4 z5 (Sub.at [10, 7, 6, 5] rfl) ?_
        refine HP.one (i := 62) rfl fun _ _ z1 z2 z3 z4 z5 => ?_
        refine HO.gdo rfl rfl rfl rfl ?_
        refine HO.v (V.eqlI rfl rfl) (ltn rfl) ?_
        refine HO.nil ?_
        refine HQ.nxt z1 z2 z3 z4 z5 (Sub.at [10, 7, 6, 5] rfl) ?_
        refine HP.one (i := 63) rfl fun _ _ z1 z2 z3 z4 z5 => ?_
        refine HO.v (V.pickT rfl rfl) (ltn rfl) ?_
        refine HO.nil ?_
        refine HQ.nxt z1 z2 z3 z4 z5 (Sub.at [10, 7, 6, 5] rfl) ?_
        refine HP.one (i := 64) rfl fun _ _ z1 z2 z3 z4 z5 => ?_
        refine HO.v (V.move rfl) (ltn rfl) ?_
        refine HO.nil ?_
        refine HQ.nxt z1 z2 z3 z4 z5 (Sub.at [10, 7, 6, 5] rfl) ?_
        refine HP.setT (t := 131) rfl (by rfl) ?_
        refine HP.one (i := 65) rfl fun _ _ z1 z2 z3 z4 z5 => ?_
        refine HO.gdo rfl rfl rfl rfl ?_
        refine HO.v (V.move rfl) (ltn rfl) ?_
        refine HO.nil ?_
        refine HQ.nxt z1 z2 z3 z4 z5 (Sub.at [10, 7, 6, 5] rfl) ?_
        refine HP.one (i := 66) rfl fun _ _ z1 z2 z3 z4 z5 => ?_
        refine HO.gdo rfl rfl rfl rfl ?_
        refine HO.v (V.indexAddr (N := (encI .i64)) (ys := _) Try.underlying27 sz3 rfl rfl (by first | omega | decide | simp) (by first | omega | decide | simp) (by exact Has.own (.there (.there (.there (.there (.there .here))))))) (ltn rfl) ?_
        refine HO.nil ?_
        refine HQ.nxt z1 z2 z3 z4 z5 (Sub.at [10, 7, 6, 5] rfl) ?_
        refine HP.one (i := 67) rfl fun _ _ z1 z2 z3 z4 z5 => ?_
        refine HO.gdo rfl rfl rfl rfl ?_
        refine HO.v (V.loadE (N := (encI .i64)) sc3 rfl (by exact .mk (Has.own (.there (.there (.there (.there (.there .here)))))) (rfl) rfl)) (ltn rfl) ?_
        refine HO.nil ?_
        refine HQ.nxt z1 z2 z3 z4 z5 (Sub.at [10, 7, 6, 5] rfl) ?_
        refine HP.one (i := 68) rfl fun _ _ z1 z2 z3 z4 z5 => ?_
        refine HO.gdo rfl rfl rfl rfl ?_
        refine HO.v (V.eqlI rfl rfl) (ltn rfl) ?_
        refine HO.nil ?_
        refine HQ.nxt z1 z2 z3 z4 z5 (Sub.at [10, 7, 6, 5] rfl) ?_
        refine HP.one (i := 69) rfl fun _ _ z1 z2 z3 z4 z5 => ?_
        refine HO.v (V.pickT rfl rfl) (ltn rfl) ?_
        refine HO.nil ?_
        refine HQ.nxt z1 z2 z3 z4 z5 (Sub.at [10, 7, 6, 5] rfl) ?_
        refine HP.one (i := 70) rfl fun _ _ z1 z2 z3 z4 z5 => ?_
        refine HO.v (V.move rfl) (ltn rfl) ?_
        refine HO.nil ?_
        refine HQ.nxt z1 z2 z3 z4 z5 (Sub.at [10, 7, 6, 5] rfl) ?_
        refine HP.setT (t := 137) rfl (by rfl) ?_
        refine HP.one (i := 71) rfl fun _ _ z1 z2 z3 z4 z5 => ?_
        refine HO.gdo rfl rfl rfl rfl ?_
        refine HO.v (V.move rfl) (ltn rfl) ?_
        refine HO.nil ?_
        refine HQ.nxt z1 z2 z3 z4 z5 (Sub.at [10, 7, 6, 5] rfl) ?_
        refine HP.one (i := 72) rfl fun _ _ z1 z2 z3 z4 z5 => ?_
        refine HO.gdo rfl rfl rfl rfl ?_
        refine HO.v (V.indexAddr (N := (encI .i64)) (ys := _) Try.underlying27 sz3 rfl rfl (by first | omega | decide | simp) (by first | omega | decide | simp) (by exact Has.own (.there (.there (.there (.there (.there .here))))))) (ltn rfl) ?_
        refine HO.nil ?_
        refine HQ.nxt z1 z2 z3 z4 z5 (Sub.at [10, 7, 6, 5] rfl) ?_
        refine HP.one (i := 73) rfl fun _ _ z1 z2 z3 z4 z5 => ?_
        refine HO.gdo rfl rfl rfl rfl ?_
        refine HO.v (V.loadE (N := (encI .i64)) sc3 rfl (by exact .mk (Has.own (.there (.there (.there (.there (.there .here)))))) (rfl) rfl)) (ltn rfl) ?_
        refine HO.nil ?_
        refine HQ.nxt z1 z2 z3 z4 z5 (Sub.at [10, 7, 6, 5] rfl) ?_
        refine HP.one (i := 74) rfl fun _ _ z1 z2 z3 z4 z5 => ?_
        refine HO.gdo rfl rfl rfl rfl ?_
        refine HO.v (V.eqlI rfl rfl) (ltn rfl) ?_
        refine HO.nil ?_
        refine HQ.nxt z1 z2 z3 z4 z5 (Sub.at [10, 7, 6, 5] rfl) ?_
        refine HP.one (i := 75) rfl fun _ _ z1 z2 z3 z4 z5 => ?_
        refine HO.v (V.pickT rfl rfl) (ltn rfl) ?_
        refine HO.nil ?_
        refine HQ.nxt z1 z2 z3 z4 z5 (Sub.at [10, 7, 6, 5] rfl) ?_
        refine HP.one (i := 76) rfl fun _ _ z1 z2 z3 z4 z5 => ?_
        refine HO.v (V.move rfl) (ltn rfl) ?_
        refine HO.nil ?_
        refine HQ.nxt z1 z2 z3 z4 z5 (Sub.at [10, 7, 6, 5] rfl) ?_
        refine HP.setT (t := 143) rfl (by rfl) ?_
        refine HP.one (i := 77) rfl fun _ _ z1 z2 z3 z4 z5 => ?_
        refine HO.gdo rfl rfl rfl rfl ?_
        refine HO.v (V.move rfl) (ltn rfl) ?_
        refine HO.nil ?_
        refine HQ.nxt z1 z2 z3 z4 z5 (Sub.at [10, 7, 6, 5] rfl) ?_
        refine HP.one (i := 78) rfl fun _ _ z1 z2 z3 z4 z5 => ?_
        refine HO.v (V.pickT rfl rfl) (ltn rfl) ?_
        refine HO.nil ?_
        refine HQ.nxt z1 z2 z3 z4 z5 (Sub.at [10, 7, 6, 5] rfl) ?_
        refine HP.one (i := 79) rfl fun _ _ z1 z2 z3 z4 z5 => ?_
        refine HO.v (V.move rfl) (ltn rfl) ?_
        refine HO.nil ?_
        refine HQ.nxt z1 z2 z3 z4 z5 (Sub.at [10, 7, 6, 5] rfl) ?_
        refine HP.setT (t := 146) rfl (by rfl) ?_
        refine HP.one (i := 80) rfl fun _ _ z1 z2 z3 z4 z5 => ?_
        refine HO.gdo rfl rfl rfl rfl ?_
        refine HO.v (V.move rfl) (ltn rfl) ?_
        refine HO.nil ?_
        refine HQ.nxt z1 z2 z3 z4 z5 (Sub.at [10, 7, 6, 5] rfl) ?_
        refine HP.one (i := 81) rfl fun _ _ z1 z2 z3 z4 z5 => ?_
        refine HO.gdo rfl rfl rfl rfl ?_
        refine HO.v (V.eqlI rfl rfl) (ltn rfl) ?_
        refine HO.nil ?_
        refine HQ.nxt z1 z2 z3 z4 z5 (Sub.at [10, 7, 6, 5] rfl) ?_
        refine HP.one (i := 82) rfl fun _ _ z1 z2 z3 z4 z5 => ?_
        refine HO.v (V.pickT rfl rfl) (ltn rfl) ?_
        refine HO.nil ?_
        refine HQ.nxt z1 z2 z3 z4 z5 (Sub.at [10, 7, 6, 5] rfl) ?_
        refine HP.one (i := 83) rfl fun _ _ z1 z2 z3 z4 z5 => ?_
        refine HO.v (V.move rfl) (ltn rfl) ?_
        refine HO.nil ?_
        refine HQ.nxt z1 z2 z3 z4 z5 (Sub.at [10, 7, 6, 5] rfl) ?_
        refine HP.setT (t := 150) rfl (by rfl) ?_
        refine HP.one (i := 84) rfl fun _ _ z1 z2 z3 z4 z5 => ?_
        refine HO.gdo rfl rfl rfl rfl ?_
        refine HO.v (V.move rfl) (ltn rfl) ?_
        refine HO.nil ?_
        refine HQ.nxt z1 z2 z3 z4 z5 (Sub.at [10, 7, 6, 5] rfl) ?_
        refine HP.one (i := 85) rfl fun _ _ z1 z2 z3 z4 z5 => ?_
        refine HO.v (V.pickT rfl rfl) (ltn rfl) ?_
        refine HO.nil ?_
        refine HQ.nxt z1 z2 z3 z4 z5 (Sub.at [10, 7, 6, 5] rfl) ?_
        refine HP.one (i := 86) rfl fun _ _ z1 z2 z3 z4 z5 => ?_
        refine HO.v (V.move rfl) (ltn rfl) ?_
        refine HO.nil ?_
        refine HQ.nxt z1 z2 z3 z4 z5 (Sub.at [10, 7, 6, 5] rfl) ?_
        refine HP.setT (t := 153) rfl (by rfl) ?_
        refine HP.one (i := 87) rfl fun _ _ z1 z2 z3 z4 z5 => ?_
        refine HO.gdo rfl rfl rfl rfl ?_
        refine HO.v (V.move rfl) (ltn rfl) ?_
        refine HO.nil ?_
        refine HQ.nxt z1 z2 z3 z4 z5 (Sub.at [10, 7, 6, 5] rfl) ?_
        refine HP.one (i := 88) rfl fun _ _ z1 z2 z3 z4 z5 => ?_
        refine HO.gdo rfl rfl rfl rfl ?_
        refine HO.v (V.eqlI rfl rfl) (ltn rfl) ?_
        refine HO.nil ?_
        refine HQ.nxt z1 z2 z3 z4 z5 (Sub.at [10, 7, 6, 5] rfl) ?_
        refine HP.one (i := 89) rfl fun _ _ z1 z2 z3 z4 z5 => ?_
        refine HO.v (V.pickT rfl rfl) (ltn rfl) ?_
        refine HO.nil ?_
        refine HQ.nxt z1 z2 z3 z4 z5 (Sub.at [10, 7, 6, 5] rfl) ?_
        refine HP.one (i := 90) rfl fun _ _ z1 z2 z3 z4 z5 => ?_
        refine HO.v (V.assign rfl) (ltn rfl) ?_
        refine HO.nil ?_
        refine HQ.nxt z1 z2 z3 z4 z5 (Sub.at [10, 7, 6, 5] rfl) ?_
        refine HP.done ?_
        refine HQ.keep (.cons (t := 0) rfl (.nil)) ?_
        refine HQ.next ?_
        refine H.ret ?_
        refine HQ.end_ rfl rfl rfl rfl (.inl rfl) _ (fun a w s => res1 Try.results6 s rfl) ?_
        refine ⟨[], _, (by exact Rems.nil), ?_⟩
        exact ⟨rfl, rfl⟩
    · skip
      intro _ _ z1 z2 z3 z4 z5
      refine HO.gdo rfl rfl rfl rfl ?_
      refine HO.buildRow (encI .i64) (kpp.outs) Try.underlying27 ze3 (.cons rfl (.cons rfl (.nil))) (.cons rfl (.cons rfl (.nil))) (Nat.le_of_ble_eq_true rfl) (Nat.le_of_ble_eq_true rfl) (ltn rfl) ?_
      intro b92
      refine HO.nil ?_
      refine HQ.nxt z1 z2 z3 z4 z5 (Sub.at [7, 4, 3, 2] rfl) ?_
      refine HP.one (i := 24) rfl fun _ _ z1 z2 z3 z4 z5 => ?_
      refine HO.gdo rfl rfl rfl rfl ?_
      refine HO.buildRow encIn (kpp.code) Try.underlying26 ze50 (.cons rfl (.cons rfl (.cons rfl (.nil)))) (.cons rfl (.cons rfl (.cons rfl (.nil)))) (Nat.le_of_ble_eq_true rfl) (Nat.le_of_ble_eq_true rfl) (ltn rfl) ?_
      intro b91
      refine HO.nil ?_
      refine HQ.nxt z1 z2 z3 z4 z5 (Sub.at [8, 5, 4, 3] rfl) ?_
      refine HP.one (i := 26) rfl fun _ _ z1 z2 z3 z4 z5 => ?_
      refine HO.gdo rfl rfl rfl rfl ?_
      refine HO.call ca11 (.cons rfl (.cons rfl (.cons rfl (.nil)))) (same14_w kpp _ _ _ _ _ _ _ _ (by decide) (by decide)) (by exact Rems.nil) (by (refine Reads.row (.tail _ (.tail _ (.tail _ (.tail _ (.tail _ (.tail _ (.tail _ (.tail _ (.tail _ (.head _)))))))))) ?_); (refine Reads.row (.tail _ (.tail _ (.tail _ (.tail _ (.tail _ (.tail _ (.tail _ (.tail _ (.tail _ (.tail _ (.head _))))))))))) ?_); (refine Reads.row (.head _) ?_); (refine Reads.row (.tail _ (.head _)) ?_); exact Reads.nil) (ltn rfl) ?_
      rintro v93 L93 ⟨rfl, rfl⟩
      dsimp only [List.nil_append, List.cons_append]
      refine HO.nil ?_
      refine HQ.nxt z1 z2 z3 z4 z5 (Sub.at [8, 5, 4, 3] rfl) ?_
      refine HP.one (i := 27) rfl fun _ _ z1 z2 z3 z4 z5 => ?_
      refine HO.v (V.pickT rfl rfl) (ltn rfl) ?_
      refine HO.nil ?_
      refine HQ.nxt z1 z2 z3 z4 z5 (Sub.at [8, 5, 4, 3] rfl) ?_
      refine HP.one (i := 28) rfl fun _ _ z1 z2 z3 z4 z5 => ?_
      refine HO.v (V.move rfl) (ltn rfl) ?_
      refine HO.nil ?_
      refine HQ.nxt z1 z2 z3 z4 z5 (Sub.at [8, 5, 4, 3] rfl) ?_
      refine HP.setT (t := 95) rfl (by rfl) ?_
      refine HP.take (i := 29) rfl rfl (ltn rfl) (gives_of (want_some rfl rfl rfl rfl) (V.loadA ag29 rfl (by exact .mk (.there .here) (by repeat constructor)))) (Sub.at [8, 5, 4, 3] rfl) ?_
      refine HP.take (i := 30) rfl rfl (ltn rfl) (gives_of (want_some rfl rfl rfl rfl) (V.move rfl)) (Sub.at [8, 5, 4, 3] rfl) ?_
      refine HP.two (i := 31) (j := 33) rfl rfl ?_ ?_
      · skip
        intro _ _ z1 z2 z3 z4 z5
        refine HO.gdo rfl rfl rfl rfl ?_
        refine HO.callV ca13 rfl (.cons rfl (.cons rfl (.cons rfl (.nil)))) (add14_w _ _ _) (by exact Rems.nil) (by exact Reads.nil) (fun _ e => by cases e; exact (ltn rfl)) ?_
        rintro v98 L98 ⟨rfl, rfl⟩
        dsimp only [List.nil_append, List.cons_append]
        refine HO.nil ?_
        refine HQ.nxt z1 z2 z3 z4 z5 (Sub.at [8, 5, 4, 3] rfl) ?_
        refine HP.two (i := 32) (j := 33) rfl rfl ?_ ?_
        · skip
          intro _ _ z1 z2 z3 z4 z5
          refine HO.gdo rfl rfl rfl rfl ?_
          refine HO.buildRow encIn (kqq.code) Try.underlying26 ze50 (.cons rfl (.nil)) (.cons rfl (.nil)) (Nat.le_of_ble_eq_true rfl) (Nat.le_of_ble_eq_true rfl) (ltn rfl) ?_
          intro b99
          refine HO.nil ?_
          refine HQ.nxt z1 z2 z3 z4 z5 (Sub.at [9, 6, 5, 4] rfl) ?_
          refine HP.one (i := 33) rfl fun _ _ z1 z2 z3 z4 z5 => ?_
          refine HO.gdo rfl rfl rfl rfl ?_
          refine HO.buildRow (encI .i64) (kqq.outs) Try.underlying27 ze3 (.cons rfl (.nil)) (.cons rfl (.nil)) (Nat.le_of_ble_eq_true rfl) (Nat.le_of_ble_eq_true rfl) (ltn rfl) ?_
          intro b100
          refine HO.nil ?_
          refine HQ.nxt z1 z2 z3 z4 z5 (Sub.at [10, 7, 6, 5] rfl) ?_
          refine HP.one (i := 34) rfl fun _ _ z1 z2 z3 z4 z5 => ?_
          refine HO.gdo rfl rfl rfl rfl ?_
          refine HO.call ca11 (.cons rfl (.cons rfl (.cons rfl (.nil)))) (same14_w kqq _ _ _ _ _ _ _ _ (by decide) (by decide)) (by exact Rems.nil) (by (refine Reads.row (.tail _ (.tail _ (.tail _ (.tail _ (.tail _ (.tail _ (.tail _ (.tail _ (.head _))))))))) ?_); (refine Reads.row (.tail _ (.tail _ (.tail _ (.tail _ (.tail _ (.tail _ (.tail _ (.tail _ (.tail _ (.head _)))))))))) ?_); (refine Reads.row (.tail _ (.head _)) ?_); (refine Reads.row (.head _) ?_); exact Reads.nil) (ltn rfl) ?_
          rintro v101 L101 ⟨rfl, rfl⟩
          dsimp only [List.nil_append, List.cons_append]
          refine HO.nil ?_
          refine HQ.nxt z1 z2 z3 z4 z5 (Sub.at [10, 7, 6, 5] rfl) ?_
          refine HP.one (i := 35) rfl fun _ _ z1 z2 z3 z4 z5 => ?_
          refine HO.v (V.pickT rfl rfl) (ltn rfl) ?_
          refine HO.nil ?_
          refine HQ.nxt z1 z2 z3 z4 z5 (Sub.at [10, 7, 6, 5] rfl) ?_
          refine HP.one (i := 36) rfl fun _ _ z1 z2 z3 z4 z5 => ?_
          refine HO.v (V.move rfl) (ltn rfl) ?_
          refine HO.nil ?_
          refine HQ.nxt z1 z2 z3 z4 z5 (Sub.at [10, 7, 6, 5] rfl) ?_
          refine HP.setT (t := 103) rfl (by rfl) ?_
          refine HP.one (i := 37) rfl fun _ _ z1 z2 z3 z4 z5 => ?_
          refine HO.gdo rfl rfl rfl rfl ?_
          refine HO.v (V.move rfl) (ltn rfl) ?_
          refine HO.nil ?_
          refine HQ.nxt z1 z2 z3 z4 z5 (Sub.at [10, 7, 6, 5] rfl) ?_
          refine HP.one (i := 38) rfl fun _ _ z1 z2 z3 z4 z5 => ?_
          refine HO.gdo rfl rfl rfl rfl ?_
          refine HO.v (V.len Try.underlying27 rfl) (ltn rfl) ?_
          refine HO.nil ?_
          refine HQ.nxt z1 z2 z3 z4 z5 (Sub.at [10, 7, 6, 5] rfl) ?_
          refine HP.one (i := 39) rfl fun _ _ z1 z2 z3 z4 z5 => ?_
          refine HO.gdo rfl rfl rfl rfl ?_
          refine HO.v (V.eqlI rfl rfl) (ltn rfl) ?_
          refine HO.nil ?_
          refine HQ.nxt z1 z2 z3 z4 z5 (Sub.at [10, 7, 6, 5] rfl) ?_
          refine HP.one (i := 40) rfl fun _ _ z1 z2 z3 z4 z5 => ?_
          refine HO.v (V.pickT rfl rfl) (ltn rfl) ?_
          refine HO.nil ?_
          refine HQ.nxt z1 z2 z3 z4 z5 (Sub.at [10, 7, 6, 5] rfl) ?_
          refine HP.one (i := 41) rfl fun _ _ z1 z2 z3 z4 z5 => ?_
          refine HO.v (V.move rfl) (ltn rfl) ?_
          refine HO.nil ?_
          refine HQ.nxt z1 z2 z3 z4 z5 (Sub.at [10, 7, 6, 5] rfl) ?_
          refine HP.setT (t := 108) rfl (by rfl) ?_
          refine HP.one (i := 42) rfl fun _ _ z1 z2 z3 z4 z5 => ?_
          refine HO.gdo rfl rfl rfl rfl ?_
          refine HO.v (V.move rfl) (ltn rfl) ?_
          refine HO.nil ?_
          refine HQ.nxt z1 z2 z3 z4 z5 (Sub.at [10, 7, 6, 5] rfl) ?_
          refine HP.one (i := 43) rfl fun _ _ z1 z2 z3 z4 z5 => ?_
          refine HO.gdo rfl rfl rfl rfl ?_
          refine HO.v (V.indexAddr (N := (encI .i64)) (ys := _) Try.underlying27 sz3 rfl rfl (by first | omega | decide | simp) (by first | omega | decide | simp) (by exact Has.own (.there (.there (.there (.there (.there (.there .here)))))))) (ltn rfl) ?_
          refine HO.nil ?_
          refine HQ.nxt z1 z2 z3 z4 z5 (Sub.at [10, 7, 6, 5] rfl) ?_
          refine HP.one (i := 44) rfl fun _ _ z1 z2 z3 z4 z5 => ?_
          refine HO.gdo rfl rfl rfl rfl ?_
          refine HO.v (V.loadE (N := (encI .i64)) sc3 rfl (by exact .mk (Has.own (.there (.there (.there (.there (.there (.there .here))))))) (rfl) rfl)) (ltn rfl) ?_
          refine HO.nil ?_
          refine HQ.nxt z1 z2 z3 z4 z5 (Sub.at [10, 7, 6, 5] rfl) ?_
          refine HP.one (i := 45) rfl fun _ _ z1 z2 z3 z4 z5 => ?_
          refine HO.gdo rfl rfl rfl rfl ?_
          refine HO.v (V.eqlI rfl rfl) (ltn rfl) ?_
          refine HO.nil ?_
          refine HQ.nxt z1 z2 z3 z4 z5 (Sub.at [10, 7, 6, 5] rfl) ?_
          refine HP.one (i := 46) rfl fun _ _ z1 z2 z3 z4 z5 => ?_
          refine HO.v (V.pickT rfl rfl) (ltn rfl) ?_
          refine HO.nil ?_
          refine HQ.nxt z1 z2 z3 z4 z5 (Sub.at [10, 7, 6, 5] rfl) ?_
          refine HP.one (i := 47) rfl fun _ _ z1 z2 z3 z4 z5 => ?_
          refine HO.v (V.move rfl) (ltn rfl) ?_
          refine HO.nil ?_
          refine HQ.nxt z1 z2 z3 z4 z5 (Sub.at [10, 7, 6, 5] rfl) ?_
          refine HP.setT (t := 114) rfl (by rfl) ?_
          refine HP.one (i := 48) rfl fun _ _ z1 z2 z3 z4 z5 => ?_
          refine HO.gdo rfl rfl rfl rfl ?_
          refine HO.v (V.move rfl) (ltn rfl) ?_
          refine HO.nil ?_
          refine HQ.nxt z1 z2 z3 z4 z5 (Sub.at [10, 7, 6, 5] rfl) ?_
          refine HP.one (i := 49) rfl fun _ _ z1 z2 z3 z4 z5 => ?_
          refine HO.gdo rfl rfl rfl rfl ?_
          refine HO.v (V.indexAddr (N := (encI .i64)) (ys := _) Try.underlying27 sz3 rfl rfl (by first | omega | decide | simp) (by first | omega | decide | simp) (by exact Has.own (.there (.there (.there (.there (.there (.there .here)))))))) (ltn rfl) ?_
          refine HO.nil ?_
          refine HQ.nxt z1 z2 z3 z4 z5 (Sub.at [10, 7, 6, 5] rfl) ?_
          refine HP.one (i := 50) rfl fun _ _ z1 z2 z3 z4 z5 => ?_
          refine HO.gdo rfl rfl rfl rfl ?_
          refine HO.v (V.loadE (N := (encI .i64)) sc3 rfl (by exact .mk (Has.own (.there (.there (.there (.there (.there (.there .here))))))) (rfl) rfl)) (ltn rfl) ?_
          refine HO.nil ?_
          refine HQ.nxt z1 z2 z3 z4 z5 (Sub.at [10, 7, 6, 5] rfl) ?_
          refine HP.one (i := 51) rfl fun _ _ z1 z2 z3 z4 z5 => ?_
          refine HO.gdo rfl rfl rfl rfl ?_
          refine HO.v (V.eqlI rfl rfl) (ltn rfl) ?_
          refine HO.nil ?_
          refine HQ.nxt z1 z2 z3 z4 z5 (Sub.at [10, 7, 6, 5] rfl) ?_
          refine HP.one (i := 52) rfl fun _ _ z1 z2 z3 z4 z5 => ?_
          refine HO.v (V.pickT rfl rfl) (ltn rfl) ?_
          refine HO.nil ?_
          refine HQ.nxt z1 z2 z3 z4 z5 (Sub.at [10, 7, 6, 5] rfl) ?_
          refine HP.one (i := 53) rfl fun _ _ z1 z2 z3 z4 z5 => ?_
          refine HO.v (V.move rfl) (ltn rfl) ?_
          refine HO.nil ?_
          refine HQ.nxt z1 z2 z3 z4 z5 (Sub.at [10, 7, 6, 5] rfl) ?_
          refine HP.setT (t := 120) rfl (by rfl) ?_
          refine HP.one (i := 54) rfl fun _ _ z1 z2 z3 z4 z5 => ?_
          refine HO.gdo rfl rfl rfl rfl ?_
          refine HO.v (V.move rfl) (ltn rfl) ?_
          refine HO.nil ?_
          refine HQ.nxt z1 z2 z3 z4 z5 (Sub.at [10, 7, 6, 5] rfl) ?_
          refine HP.one (i := 55) rfl fun _ _ z1 z2 z3 z4 z5 => ?_
          refine HO.gdo rfl rfl rfl rfl ?_
          refine HO.v (V.indexAddr (N := (encI .i64)) (ys := _) Try.underlying27 sz3 rfl rfl (by first | omega | decide | simp) (by first | omega | decide | simp) (by exact Has.own (.there (.there (.there (.there (.there (.there .here)))))))) (ltn rfl) ?_
          refine HO.nil ?_
          refine HQ.nxt z1 z2 z3 z4 z5 (Sub.at [10, 7, 6, 5] rfl) ?_
          refine HP.one (i := 56) rfl fun _ _ z1 z2 z3 z4 z5 => ?_
          refine HO.gdo rfl rfl rfl rfl ?_
          refine HO.v (V.loadE (N := (encI .i64)) sc3 rfl (by exact .mk (Has.own (.there (.there (.there (.there (.there (.there .here))))))) (rfl) rfl)) (ltn rfl) ?_
          refine HO.nil ?_
          refine HQ.nxt z1 z2 z3 z4 z5 (Sub.at [10, 7, 6, 5] rfl) ?_
          refine HP.one (i := 57) rfl fun _ _ z1 z2 z3 z4 z5 => ?_
          refine HO.gdo rfl rfl rfl rfl ?_
          refine HO.v (V.eqlI rfl rfl) (ltn rfl) ?_
          refine HO.nil ?_
          refine HQ.nxt z1 z2 z3 z4 z5 (Sub.at [10, 7, 6, 5] rfl) ?_
          refine HP.one (i := 58) rfl fun _ _ z1 z2 z3 z4 z5 => ?_
          refine HO.v (V.pickT rfl rfl) (ltn rfl) ?_
          refine HO.nil ?_
          refine HQ.nxt z1 z2 z3 z4 z5 (Sub.at [10, 7, 6, 5] rfl) ?_
          refine HP.one (i := 59) rfl fun _ _ z1 z2 z3 z4 z5 => ?_
          refine HO.v (V.move rfl) (ltn rfl) ?_
          refine HO.nil ?_
          refine HQ.nxt z1 z2 z3 z4 z5 (Sub.at [10, 7, 6, 5] rfl) ?_
          refine HP.setT (t := 126) rfl (by rfl) ?_
          refine HP.one (i := 60) rfl fun _ _ z1 z2 z3 z4 z5 => ?_
          refine HO.gdo rfl rfl rfl rfl ?_
          refine HO.v (V.move rfl) (ltn rfl) ?_
          refine HO.nil ?_
          refine HQ.nxt z1 z2 z3 z4 z5 (Sub.at [10, 7, 6, 5] rfl) ?_
          refine HP.one (i := 61) rfl fun _ _ z1 z2 z3 z4 z5 => ?_
          refine HO.gdo rfl rfl rfl rfl ?_
          refine HO.v (V.len Try.underlying27 rfl) (ltn rfl) ?_
          refine HO.nil ?_
          refine HQ.nxt z1 z2 z3 z4 z5 (Sub.at [10, 7, 6, 5] rfl) ?_
          refine HP.one (i := 62) rfl fun _ _ z1 z2 z3 z4 z5 => ?_
          refine HO.gdo rfl rfl rfl rfl ?_
          refine HO.v (V.eqlI rfl rfl) (ltn rfl) ?_
          refine HO.nil ?_
          refine HQ.nxt z1 z2 z3 z4 z5 (Sub.at [10, 7, 6, 5] rfl) ?_
          refine HP.one (i := 63) rfl fun _ _ z1 z2 z3 z4 z5 => ?_
          refine HO.v (V.pickT rfl rfl) (ltn rfl) ?_
          refine HO.nil ?_
          refine HQ.nxt z1 z2 z3 z4 z5 (Sub.at [10, 7, 6, 5] rfl) ?_
          refine HP.one (i := 64) rfl fun _ _ z1 z2 z3 z4 z5 => ?_
          refine HO.v (V.move rfl) (ltn rfl) ?_
          refine HO.nil ?_
          refine HQ.nxt z1 z2 z3 z4 z5 (Sub.at [10, 7, 6, 5] rfl) ?_
          refine HP.setT (t := 131) rfl (by rfl) ?_
          refine HP.one (i := 65) rfl fun _ _ z1 z2 z3 z4 z5 => ?_
          refine HO.gdo rfl rfl rfl rfl ?_
          refine HO.v (V.move rfl) (ltn rfl) ?_
          refine HO.nil ?_
          refine HQ.nxt z1 z2 z3 z4 z5 (Sub.at [10, 7, 6, 5] rfl) ?_
          refine HP.one (i := 66) rfl fun _ _ z1 z2 z3 z4 z5 => ?_
          refine HO.gdo rfl rfl rfl rfl ?_
          refine HO.v (V.indexAddr (N := (encI .i64)) (ys := _) Try.underlying27 sz3 rfl rfl (by first | omega | decide | simp) (by first | omega | decide | simp) (by exact Has.own (.there (.there (.there (.there (.there .here))))))) (ltn rfl) ?_
          refine HO.nil ?_
          refine HQ.nxt z1 z2 z3 z4 z5 (Sub.at [10, 7, 6, 5] rfl) ?_
          refine HP.one (i := 67) rfl fun _ _ z1 z2 z3 z4 z5 => ?_
          refine HO.gdo rfl rfl rfl rfl ?_
          refine HO.v (V.loadE (N := (encI .i64)) sc3 rfl (by exact .mk (Has.own (.there (.there (.there (.there (.there .here)))))) (rfl) rfl)) (ltn rfl) ?_
          refine HO.nil ?_
          refine HQ.nxt z1 z2 z3 z4 z5 (Sub.at [10, 7, 6, 5] rfl) ?_
          refine HP.one (i := 68) rfl fun _ _ z1 z2 z3 z4 z5 => ?_
          refine HO.gdo rfl rfl rfl rfl ?_
          refine HO.v (V.eqlI rfl rfl) (ltn rfl) ?_
          refine HO.nil ?_
          refine HQ.nxt z1 z2 z3 z4 z5 (Sub.at [10, 7, 6, 5] rfl) ?_
          refine HP.one (i := 69) rfl fun _ _ z1 z2 z3 z4 z5 => ?_
          refine HO.v (V.pickT rfl rfl) (ltn rfl) ?_
          refine HO.nil ?_
          refine HQ.nxt z1 z2 z3 z4 z5 (Sub.at [10, 7, 6, 5] rfl) ?_
          refine HP.one (i := 70) rfl fun _ _ z1 z2 z3 z4 z5 => ?_
          refine HO.v (V.move rfl) (ltn rfl) ?_
          refine HO.nil ?_
          refine HQ.nxt z1 z2 z3 z4 z5 (Sub.at [10, 7, 6, 5] rfl) ?_
          refine HP.setT (t := 137) rfl (by rfl) ?_
          refine HP.one (i := 71) rfl fun _ _ z1 z2 z3 z4 z5 => ?_
          refine HO.gdo rfl rfl rfl rfl ?_
          refine HO.v (V.move rfl) (ltn rfl) ?_
          refine HO.nil ?_
          refine HQ.nxt z1 z2 z3 z4 z5 (Sub.at [10, 7, 6, 5] rfl) ?_
          refine HP.one (i := 72) rfl fun _ _ z1 z2 z3 z4 z5 => ?_
          refine HO.gdo rfl rfl rfl rfl ?_
          refine HO.v (V.indexAddr (N := (encI .i64)) (ys := _) Try.underlying27 sz3 rfl rfl (by first | omega | decide | simp) (by first | omega | decide | simp) (by exact Has.own (.there (.there (.there (.there (.there .here))))))) (ltn rfl) ?_
          refine HO.nil ?_
          refine HQ.nxt z1 z2 z3 z4 z5 (Sub.at [10, 7, 6, 5] rfl) ?_
          refine HP.one (i := 73) rfl fun _ _ z1 z2 z3 z4 z5 => ?_
          refine HO.gdo rfl rfl rfl rfl ?_
          refine HO.v (V.loadE (N := (encI .i64)) sc3 rfl (by exact .mk (Has.own (.there (.there (.there (.there (.there .here)))))) (rfl) rfl)) (ltn rfl) ?_
          refine HO.nil ?_
          refine HQ.nxt z1 z2 z3 z4 z5 (Sub.at [10, 7, 6, 5] rfl) ?_
          refine HP.one (i := 74) rfl fun _ _ z1 z2 z3 z4 z5 => ?_
          refine HO.gdo rfl rfl rfl rfl ?_
          refine HO.v (V.eqlI rfl rfl) (ltn rfl) ?_
          refine HO.nil ?_
          refine HQ.nxt z1 z2 z3 z4 z5 (Sub.at [10, 7, 6, 5] rfl) ?_
          refine HP.one (i := 75) rfl fun _ _ z1 z2 z3 z4 z5 => ?_
          refine HO.v (V.pickT rfl rfl) (ltn rfl) ?_
          refine HO.nil ?_
          refine HQ.nxt z1 z2 z3 z4 z5 (Sub.at [10, 7, 6, 5] rfl) ?_
          refine HP.one (i := 76) rfl fun _ _ z1 z2 z3 z4 z5 => ?_
          refine HO.v (V.move rfl) (ltn rfl) ?_
          refine HO.nil ?_
          refine HQ.nxt z1 z2 z3 z4 z5 (Sub.at [10, 7, 6, 5] rfl) ?_
          refine HP.setT (t := 143) rfl (by rfl) ?_
          refine HP.one (i := 77) rfl fun _ _ z1 z2 z3 z4 z5 => ?_
          refine HO.gdo rfl rfl rfl rfl ?_
          refine HO.v (V.move rfl) (ltn rfl) ?_
          refine HO.nil ?_
          refine HQ.nxt z1 z2 z3 z4 z5 (Sub.at [10, 7, 6, 5] rfl) ?_
          refine HP.one (i := 78) rfl fun _ _ z1 z2 z3 z4 z5 => ?_
          refine HO.v (V.pickT rfl rfl) (ltn rfl) ?_
          refine HO.nil ?_
          refine HQ.nxt z1 z2 z3 z4 z5 (Sub.at [10, 7, 6, 5] rfl) ?_
          refine HP.one (i := 79) rfl fun _ _ z1 z2 z3 z4 z5 => ?_
          refine HO.v (V.move rfl) (ltn rfl) ?_
          refine HO.nil ?_
          refine HQ.nxt z1 z2 z3 z4 z5 (Sub.at [10, 7, 6, 5] rfl) ?_
          refine HP.setT (t := 146) rfl (by rfl) ?_
          refine HP.one (i := 80) rfl fun _ _ z1 z2 z3 z4 z5 => ?_
          refine HO.gdo rfl rfl rfl rfl ?_
          refine HO.v (V.move rfl) (ltn rfl) ?_
          refine HO.nil ?_
          refine HQ.nxt z1 z2 z3 z4 z5 (Sub.at [10, 7, 6, 5] rfl) ?_
          refine HP.one (i := 81) rfl fun _ _ z1 z2 z3 z4 z5 => ?_
          refine HO.gdo rfl rfl rfl rfl ?_
          refine HO.v (V.eqlI rfl rfl) (ltn rfl) ?_
          refine HO.nil ?_
          refine HQ.nxt z1 z2 z3 z4 z5 (Sub.at [10, 7, 6, 5] rfl) ?_
          refine HP.one (i := 82) rfl fun _ _ z1 z2 z3 z4 z5 => ?_
          refine HO.v (V.pickT rfl rfl) (ltn rfl) ?_
          refine HO.nil ?_
          refine HQ.nxt z1 z2 z3 z4 z5 (Sub.at [10, 7, 6, 5] rfl) ?_
          refine HP.one (i := 83) rfl fun _ _ z1 z2 z3 z4 z5 => ?_
          refine HO.v (V.move rfl) (ltn rfl) ?_
          refine HO.nil ?_
          refine HQ.nxt z1 z2 z3 z4 z5 (Sub.at [10, 7, 6, 5] rfl) ?_
          refine HP.setT (t := 150) rfl (by rfl) ?_
          refine HP.one (i := 84) rfl fun _ _ z1 z2 z3 z4 z5 => ?_
          refine HO.gdo rfl rfl rfl rfl ?_
          refine HO.v (V.move rfl) (ltn rfl) ?_
          refine HO.nil ?_
          refine HQ.nxt z1 z2 z3 z4 z5 (Sub.at [10, 7, 6, 5] rfl) ?_
          refine HP.one (i := 85) rfl fun _ _ z1 z2 z3 z4 z5 => ?_
          refine HO.v (V.pickT rfl rfl) (ltn rfl) ?_
          refine HO.nil ?_
          refine HQ.nxt z1 z2 z3 z4 z5 (Sub.at [10, 7, 6, 5] rfl) ?_
          refine HP.one (i := 86) rfl fun _ _ z1 z2 z3 z4 z5 => ?_
          refine HO.v (V.move rfl) (ltn rfl) ?_
          refine HO.nil ?_
          refine HQ.nxt z1 z2 z3 z4 z5 (Sub.at [10, 7, 6, 5] rfl) ?_
          refine HP.setT (t := 153) rfl (by rfl) ?_
          refine HP.one (i := 87) rfl fun _ _ z1 z2 z3 z4 z5 => ?_
          refine HO.gdo rfl rfl rfl rfl ?_
          refine HO.v (V.move rfl) (ltn rfl) ?_
          refine HO.nil ?_
          refine HQ.nxt z1 z2 z3 z4 z5 (Sub.at [10, 7, 6, 5] rfl) ?_
          refine HP.one (i := 88) rfl fun _ _ z1 z2 z3 z4 z5 => ?_
          refine HO.gdo rfl rfl rfl rfl ?_
          refine HO.v (V.eqlI rfl rfl) (ltn rfl) ?_
          refine HO.nil ?_
          refine HQ.nxt z1 z2 z3 z4 z5 (Sub.at [10, 7, 6, 5] rfl) ?_
          refine HP.one (i := 89) rfl fun _ _ z1 z2 z3 z4 z5 => ?_
          refine HO.v (V.pickT rfl rfl) (ltn rfl) ?_
          refine HO.nil ?_
          refine HQ.nxt z1 z2 z3 z4 z5 (Sub.at [10, 7, 6, 5] rfl) ?_
          refine HP.one (i := 90) rfl fun _ _ z1 z2 z3 z4 z5 => ?_
          refine HO.v (V.assign rfl) (ltn rfl) ?_
          refine HO.nil ?_
          refine HQ.nxt z1 z2 z3 z4 z5 (Sub.at [10, 7, 6, 5] rfl) ?_
          refine HP.done ?_
          refine HQ.keep (.cons (t := 0) rfl (.nil)) ?_
          refine HQ.next ?_
          refine H.ret ?_
          refine HQ.end_ rfl rfl rfl rfl (.inl rfl) _ (fun a w s => res1 Try.results6 s rfl) ?_
          refine ⟨[], _, (by exact Rems.nil), ?_⟩
          exact ⟨rfl, rfl⟩
        · skip
          intro _ _ z1 z2 z3 z4 z5
          refine HO.gdo rfl rfl rfl rfl ?_
          refine HO.buildRow (encI .i64) (kqq.outs) Try.underlying27 ze3 (.cons rfl (.nil)) (.cons rfl (.nil)) (Nat.le_of_ble_eq_true rfl) (Nat.le_of_ble_eq_true rfl) (ltn rfl) ?_
          intro b100
          refine HO.nil ?_
          refine HQ.nxt z1 z2 z3 z4 z5 (Sub.at [9, 6, 5, 4] rfl) ?_
          refine HP.one (i := 32) rfl fun _ _ z1 z2 z3 z4 z5 => ?_
          refine HO.gdo rfl rfl rfl rfl ?_
          refine HO.buildRow encIn (kqq.code) Try.underlying26 ze50 (.cons rfl (.nil)) (.cons rfl (.nil)) (Nat.le_of_ble_eq_true rfl) (Nat.le_of_ble_eq_true rfl) (ltn rfl) ?_
          intro b99
          refine HO.nil ?_
          refine HQ.nxt z1 z2 z3 z4 z5 (Sub.at [10, 7, 6, 5] rfl) ?_
          refine HP.one (i := 34) rfl fun _ _ z1 z2 z3 z4 z5 => ?_
          refine HO.gdo rfl rfl rfl rfl ?_
          refine HO.call ca11 (.cons rfl (.cons rfl (.cons rfl (.nil)))) (same14_w kqq _ _ _ _ _ _ _ _ (by decide) (by decide)) (by exact Rems.nil) (by (refine Reads.row (.tail _ (.tail _ (.tail _ (.tail _ (.tail _ (.tail _ (.tail _ (.tail _ (.head _))))))))) ?_); (refine Reads.row (.tail _ (.tail _ (.tail _ (.tail _ (.tail _ (.tail _ (.tail _ (.tail _ (.tail _ (.head _)))))))))) ?_); (refine Reads.row (.head _) ?_); (refine Reads.row (.tail _ (.head _)) ?_); exact Reads.nil) (ltn rfl) ?_
          rintro v101 L101 ⟨rfl, rfl⟩
          dsimp only [List.nil_append, List.cons_append]
          refine HO.nil ?_
          refine HQ.nxt z1 z2 z3 z4 z5 (Sub.at [10, 7, 6, 5] rfl) ?_
          refine HP.one (i := 35) rfl fun _ _ z1 z2 z3 z4 z5 => ?_
          refine HO.v (V.pickT rfl rfl) (ltn rfl) ?_
          refine HO.nil ?_
          refine HQ.nxt z1 z2 z3 z4 z5 (Sub.at [10, 7, 6, 5] rfl) ?_
          refine HP.one (i := 36) rfl fun _ _ z1 z2 z3 z4 z5 => ?_
          refine HO.v (V.move rfl) (ltn rfl) ?_
          refine HO.nil ?_
          refine HQ.nxt z1 z2 z3 z4 z5 (Sub.at [10, 7, 6, 5] rfl) ?_
          refine HP.setT (t := 103) rfl (by rfl) ?_
          refine HP.one (i := 37) rfl fun _ _ z1 z2 z3 z4 z5 => ?_
          refine HO.gdo rfl rfl rfl rfl ?_
          refine HO.v (V.move rfl) (ltn rfl) ?_
          refine HO.nil ?_
          refine HQ.nxt z1 z2 z3 z4 z5 (Sub.at [10, 7, 6, 5] rfl) ?_
          refine HP.one (i := 38) rfl fun _ _ z1 z2 z3 z4 z5 => ?_
          refine HO.gdo rfl rfl rfl rfl ?_
          refine HO.v (V.len Try.underlying27 rfl) (ltn rfl) ?_
          refine HO.nil ?_
          refine HQ.nxt z1 z2 z3 z4 z5 (Sub.at [10, 7, 6, 5] rfl) ?_
          refine HP.one (i := 39) rfl fun _ _ z1 z2 z3 z4 z5 => ?_
          refine HO.gdo rfl rfl rfl rfl ?_
          refine HO.v (V.eqlI rfl rfl) (ltn rfl) ?_
          refine HO.nil ?_
          refine HQ.nxt z1 z2 z3 z4 z5 (Sub.at [10, 7, 6, 5] rfl) ?_
          refine HP.one (i := 40) rfl fun _ _ z1 z2 z3 z4 z5 => ?_
          refine HO.v (V.pickT rfl rfl) (ltn rfl) ?_
          refine HO.nil ?_
          refine HQ.nxt z1 z2 z3 z4 z5 (Sub.at [10, 7, 6, 5] rfl) ?_
          refine HP.one (i := 41) rfl fun _ _ z1 z2 z3 z4 z5 => ?_
          refine HO.v (V.move rfl) (ltn rfl) ?_
          refine HO.nil ?_
          refine HQ.nxt z1 z2 z3 z4 z5 (Sub.at [10, 7, 6, 5] rfl) ?_
          refine HP.setT (t := 108) rfl (by rfl) ?_
          refine HP.one (i := 42) rfl fun _ _ z1 z2 z3 z4 z5 => ?_
          refine HO.gdo rfl rfl rfl rfl ?_
          refine HO.v (V.move rfl) (ltn rfl) ?_
          refine HO.nil ?_
          refine HQ.nxt z1 z2 z3 z4 z5 (Sub.at [10, 7, 6, 5] rfl) ?_
          refine HP.one (i := 43) rfl fun _ _ z1 z2 z3 z4 z5 => ?_
          refine HO.gdo rfl rfl rfl rfl ?_
          refine HO.v (V.indexAddr (N := (encI .i64)) (ys := _) Try.underlying27 sz3 rfl rfl (by first | omega | decide | simp) (by first | omega | decide | simp) (by exact Has.own (.there (.there (.there (.there (.there (.there .here)))))))) (ltn rfl) ?_
          refine HO.nil ?_
          refine HQ.nxt z1 z2 z3 z4 z5 (Sub.at [10, 7, 6, 5] rfl) ?_
          refine HP.one (i := 44) rfl fun _ _ z1 z2 z3 z4 z5 => ?_
          refine HO.gdo rfl rfl rfl rfl ?_
          refine HO.v (V.loadE (N := (encI .i64)) sc3 rfl (by exact .mk (Has.own (.there (.there (.there (.there (.there (.there .here))))))) (rfl) rfl)) (ltn rfl) ?_
          refine HO.nil ?_
          refine HQ.nxt z1 z2 z3 z4 z5 (Sub.at [10, 7, 6, 5] rfl) ?_
          refine HP.one (i := 45) rfl fun _ _ z1 z2 z3 z4 z5 => ?_
          refine HO.gdo rfl rfl rfl rfl ?_
          refine HO.v (V.eqlI rfl rfl) (ltn rfl) ?_
          refine HO.nil ?_
          refine HQ.nxt z1 z2 z3 z4 z5 (Sub.at [10, 7, 6, 5] rfl) ?_
          refine HP.one (i := 46) rfl fun _ _ z1 z2 z3 z4 z5 => ?_
          refine HO.v (V.pickT rfl rfl) (ltn rfl) ?_
          refine HO.nil ?_
          refine HQ.nxt z1 z2 z3 z4 z5 (Sub.at [10, 7, 6, 5] rfl) ?_
          refine HP.one (i := 47) rfl fun _ _ z1 z2 z3 z4 z5 => ?_
          refine HO.v (V.move rfl) (ltn rfl) ?_
          refine HO.nil ?_
          refine HQ.nxt z1 z2 z3 z4 z5 (Sub.at [10, 7, 6, 5] rfl) ?_
          refine HP.setT (t := 114) rfl (by rfl) ?_
          refine HP.one (i := 48) rfl fun _ _ z1 z2 z3 z4 z5 => ?_
          refine HO.gdo rfl rfl rfl rfl ?_
          refine HO.v (V.move rfl) (ltn rfl) ?_
          refine HO.nil ?_
          refine HQ.nxt z1 z2 z3 z4 z5 (Sub.at [10, 7, 6, 5] rfl) ?_
          refine HP.one (i := 49) rfl fun _ _ z1 z2 z3 z4 z5 => ?_
          refine HO.gdo rfl rfl rfl rfl ?_
          refine HO.v (V.indexAddr (N := (encI .i64)) (ys := _) Try.underlying27 sz3 rfl rfl (by first | omega | decide | simp) (by first | omega | decide | simp) (by exact Has.own (.there (.there (.there (.there (.there (.there .here)))))))) (ltn rfl) ?_
          refine HO.nil ?_
          refine HQ.nxt z1 z2 z3 z4 z5 (Sub.at [10, 7, 6, 5] rfl) ?_
          refine HP.one (i := 50) rfl fun _ _ z1 z2 z3 z4 z5 => ?_
          refine HO.gdo rfl rfl rfl rfl ?_
          refine HO.v (V.loadE (N := (encI .i64)) sc3 rfl (by exact .mk (Has.own (.there (.there (.there (.there (.there (.there .here))))))) (rfl) rfl)) (ltn rfl) ?_
          refine HO.nil ?_
          refine HQ.nxt z1 z2 z3 z4 z5 (Sub.at [10, 7, 6, 5] rfl) ?_
          refine HP.one (i := 51) rfl fun _ _ z1 z2 z3 z4 z5 => ?_
          refine HO.gdo rfl rfl rfl rfl ?_
          refine HO.v (V.eqlI rfl rfl) (ltn rfl) ?_
          refine HO.nil ?_
          refine HQ.nxt z1 z2 z3 z4 z5 (Sub.at [10, 7, 6, 5] rfl) ?_
          refine HP.one (i := 52) rfl fun _ _ z1 z2 z3 z4 z5 => ?_
          refine HO.v (V.pickT rfl rfl) (ltn rfl) ?_
          refine HO.nil ?_
          refine HQ.nxt z1 z2 z3 z4 z5 (Sub.at [10, 7, 6, 5] rfl) ?_
          refine HP.one (i := 53) rfl fun _ _ z1 z2 z3 z4 z5 => ?_
          refine HO.v (V.move rfl) (ltn rfl) ?_
          refine HO.nil ?_
          refine HQ.nxt z1 z2 z3 z4 z5 (Sub.at [10, 7, 6, 5] rfl) ?_
          refine HP.setT (t := 120) rfl (by rfl) ?_
          refine HP.one (i := 54) rfl fun _ _ z1 z2 z3 z4 z5 => ?_
          refine HO.gdo rfl rfl rfl rfl ?_
          refine HO.v (V.move rfl) (ltn rfl) ?_
          refine HO.nil ?_
          refine HQ.nxt z1 z2 z3 z4 z5 (Sub.at [10, 7, 6, 5] rfl) ?_
          refine HP.one (i := 55) rfl fun _ _ z1 z2 z3 z4 z5 => ?_
          refine HO.gdo rfl rfl rfl rfl ?_
          refine HO.v (V.indexAddr (N := (encI .i64)) (ys := _) Try.underlying27 sz3 rfl rfl (by first | omega | decide | simp) (by first | omega | decide | simp) (by exact Has.own (.there (.there (.there (.there (.there (.there .here)))))))) (ltn rfl) ?_
          refine HO.nil ?_
          refine HQ.nxt z1 z2 z3 z4 z5 (Sub.at [10, 7, 6, 5] rfl) ?_
          refine HP.one (i := 56) rfl fun _ _ z1 z2 z3 z4 z5 => ?_
          refine HO.gdo rfl rfl rfl rfl ?_
          refine HO.v (V.loadE (N := (encI .i64)) sc3 rfl (by exact .mk (Has.own (.there (.there (.there (.there (.there (.there .here))))))) (rfl) rfl)) (ltn rfl) ?_
          refine HO.nil ?_
          refine HQ.nxt z1 z2 z3 z4 z5 (Sub.at [10, 7, 6, 5] rfl) ?_
          refine HP.one (i := 57) rfl fun _ _ z1 z2 z3 z4 z5 => ?_
          refine HO.gdo rfl rfl rfl rfl ?_
          refine HO.v (V.eqlI rfl rfl) (ltn rfl) ?_
          refine HO.nil ?_
          refine HQ.nxt z1 z2 z3 z4 z5 (Sub.at [10, 7, 6, 5] rfl) ?_
          refine HP.one (i := 58) rfl fun _ _ z1 z2 z3 z4 z5 => ?_
          refine HO.v (V.pickT rfl rfl) (ltn rfl) ?_
          refine HO.nil ?_
          refine HQ.nxt z1 z2 z3 z4 z5 (Sub.at [10, 7, 6, 5] rfl) ?_
          refine HP.one (i := 59) rfl fun _ _ z1 z2 z3 z4 z5 => ?_
          refine HO.v (V.move rfl) (ltn rfl) ?_
          refine HO.nil ?_
          refine HQ.nxt z1 z2 z3 z4 z5 (Sub.at [10, 7, 6, 5] rfl) ?_
          refine HP.setT (t := 126) rfl (by rfl) ?_
          refine HP.one (i := 60) rfl fun _ _ z1 z2 z3 z4 z5 => ?_
          refine HO.gdo rfl rfl rfl rfl ?_
          refine HO.v (V.move rfl) (ltn rfl) ?_
          refine HO.nil ?_
          refine HQ.nxt z1 z2 z3 z4 z5 (Sub.at [10, 7, 6, 5] rfl) ?_
          refine HP.one (i := 61) rfl fun _ _ z1 z2 z3 z4 z5 => ?_
          refine HO.gdo rfl rfl rfl rfl ?_
          refine HO.v (V.len Try.underlying27 rfl) (ltn rfl) ?_
          refine HO.nil ?_
          refine HQ.nxt z1 z2 z3 z4 z5 (Sub.at [10, 7, 6, 5] rfl) ?_
          refine HP.one (i := 62) rfl fun _ _ z1 z2 z3 z4 z5 => ?_
          refine HO.gdo rfl rfl rfl rfl ?_
          refine HO.v (V.eqlI rfl rfl) (ltn rfl) ?_
          refine HO.nil ?_
          refine HQ.nxt z1 z2 z3 z4 z5 (Sub.at [10, 7, 6, 5] rfl) ?_
          refine HP.one (i := 63) rfl fun _ _ z1 z2 z3 z4 z5 => ?_
          refine HO.v (V.pickT rfl rfl) (ltn rfl) ?_
          refine HO.nil ?_
          refine HQ.nxt z1 z2 z3 z4 z5 (Sub.at [10, 7, 6, 5] rfl) ?_
          refine HP.one (i := 64) rfl fun _ _ z1 z2 z3 z4 z5 => ?_
          refine HO.v (V.move rfl) (ltn rfl) ?_
          refine HO.nil ?_
          refine HQ.nxt z1 z2 z3 z4 z5 (Sub.at [10, 7, 6, 5] rfl) ?_
          refine HP.setT (t := 131) rfl (by rfl) ?_
          refine HP.one (i := 65) rfl fun _ _ z1 z2 z3 z4 z5 => ?_
          refine HO.gdo rfl rfl rfl rfl ?_
          refine HO.v (V.move rfl) (ltn rfl) ?_
          refine HO.nil ?_
          refine HQ.nxt z1 z2 z3 z4 z5 (Sub.at [10, 7, 6, 5] rfl) ?_
          refine HP.one (i := 66) rfl fun _ _ z1 z2 z3 z4 z5 => ?_
          refine HO.gdo rfl rfl rfl rfl ?_
          refine HO.v (V.indexAddr (N := (encI .i64)) (ys := _) Try.underlying27 sz3 rfl rfl (by first | omega | decide | simp) (by first | omega | decide | simp) (by exact Has.own (.there (.there (.there (.there (.there .here))))))) (ltn rfl) ?_
          refine HO.nil ?_
          refine HQ.nxt z1 z2 z3 z4 z5 (Sub.at [10, 7, 6, 5] rfl) ?_
          refine HP.one (i := 67) rfl fun _ _ z1 z2 z3 z4 z5 => ?_
          refine HO.gdo rfl rfl rfl rfl ?_
          refine HO.v (V.loadE (N := (encI .i64)) sc3 rfl (by exact .mk (Has.own (.there (.there (.there (.there (.there .here)))))) (rfl) rfl)) (ltn rfl) ?_
          refine HO.nil ?_
          refine HQ.nxt z1 z2 z3 z4 z5 (Sub.at [10, 7, 6, 5] rfl) ?_
          refine HP.one (i := 68) rfl fun _ _ z1 z2 z3 z4 z5 => ?_
          refine HO.gdo rfl rfl rfl rfl ?_
          refine HO.v (V.eqlI rfl rfl) (ltn rfl) ?_
          refine HO.nil ?_
          refine HQ.nxt z1 z2 z3 z4 z5 (Sub.at [10, 7, 6, 5] rfl) ?_
          refine HP.one (i := 69) rfl fun _ _ z1 z2 z3 z4 z5 => ?_
          refine HO.v (V.pickT rfl rfl) (ltn rfl) ?_
          refine HO.nil ?_
          refine HQ.nxt z1 z2 z3 z4 z5 (Sub.at [10, 7, 6, 5] rfl) ?_
          refine HP.one (i := 70) rfl fun _ _ z1 z2 z3 z4 z5 => ?_
          refine HO.v (V.move rfl) (ltn rfl) ?_
          refine HO.nil ?_
          refine HQ.nxt z1 z2 z3 z4 z5 (Sub.at [10, 7, 6, 5] rfl) ?_
          refine HP.setT (t := 137) rfl (by rfl) ?_
          refine HP.one (i := 71) rfl fun _ _ z1 z2 z3 z4 z5 => ?_
          refine HO.gdo rfl rfl rfl rfl ?_
          refine HO.v (V.move rfl) (ltn rfl) ?_
          refine HO.nil ?_
          refine HQ.nxt z1 z2 z3 z4 z5 (Sub.at [10, 7, 6, 5] rfl) ?_
          refine HP.one (i := 72) rfl fun _ _ z1 z2 z3 z4 z5 => ?_
          refine HO.gdo rfl rfl rfl rfl ?_
          refine HO.v (V.indexAddr (N := (encI .i64)) (ys := _) Try.underlying27 sz3 rfl rfl (by first | omega | decide | simp) (by first | omega | decide | simp) (by exact Has.own (.there (.there (.there (.there (.there .here))))))) (ltn rfl) ?_
          refine HO.nil ?_
          refine HQ.nxt z1 z2 z3 z4 z5 (Sub.at [10, 7, 6, 5] rfl) ?_
          refine HP.one (i := 73) rfl fun _ _ z1 z2 z3 z4 z5 => ?_
          refine HO.gdo rfl rfl rfl rfl ?_
          refine HO.v (V.loadE (N := (encI .i64)) sc3 rfl (by exact .mk (Has.own (.there (.there (.there (.there (.there .here)))))) (rfl) rfl)) (ltn rfl) ?_
          refine HO.nil ?_
          refine HQ.nxt z1 z2 z3 z4 z5 (Sub.at [10, 7, 6, 5] rfl) ?_
          refine HP.one (i := 74) rfl fun _ _ z1 z2 z3 z4 z5 => ?_
          refine HO.gdo rfl rfl rfl rfl ?_
          refine HO.v (V.eqlI rfl rfl) (ltn rfl) ?_
          refine HO.nil ?_
          refine HQ.nxt z1 z2 z3 z4 z5 (Sub.at [10, 7, 6, 5] rfl) ?_
          refine HP.one (i := 75) rfl fun _ _ z1 z2 z3 z4 z5 => ?_
          refine HO.v (V.pickT rfl rfl) (ltn rfl) ?_
          refine HO.nil ?_
          refine HQ.nxt z1 z2 z3 z4 z5 (Sub.at [10, 7, 6, 5] rfl) ?_
          refine HP.one (i := 76) rfl fun _ _ z1 z2 z3 z4 z5 => ?_
          refine HO.v (V.move rfl) (ltn rfl) ?_
          refine HO.nil ?_
          refine HQ.nxt z1 z2 z3 z4 z5 (Sub.at [10, 7, 6, 5] rfl) ?_
          refine HP.setT (t := 143) rfl (by rfl) ?_
          refine HP.one (i := 77) rfl fun _ _ z1 z2 z3 z4 z5 => ?_
          refine HO.gdo rfl rfl rfl rfl ?_
          refine HO.v (V.move rfl) (ltn rfl) ?_
          refine HO.nil ?_
          refine HQ.nxt z1 z2 z3 z4 z5 (Sub.at [10, 7, 6, 5] rfl) ?_
          refine HP.one (i := 78) rfl fun _ _ z1 z2 z3 z4 z5 => ?_
          refine HO.v (V.pickT rfl rfl) (ltn rfl) ?_
          refine HO.nil ?_
          refine HQ.nxt z1 z2 z3 z4 z5 (Sub.at [10, 7, 6, 5] rfl) ?_
          refine HP.one (i := 79) rfl fun _ _ z1 z2 z3 z4 z5 => ?_
          refine HO.v (V.move rfl) (ltn rfl) ?_
          refine HO.nil ?_
          refine HQ.nxt z1 z2 z3 z4 z5 (Sub.at [10, 7, 6, 5] rfl) ?_
          refine HP.setT (t := 146) rfl (by rfl) ?_
          refine HP.one (i := 80) rfl fun _ _ z1 z2 z3 z4 z5 => ?_
          refine HO.gdo rfl rfl rfl rfl ?_
          refine HO.v (V.move rfl) (ltn rfl) ?_
          refine HO.nil ?_
          refine HQ.nxt z1 z2 z3 z4 z5 (Sub.at [10, 7, 6, 5] rfl) ?_
          refine HP.one (i := 81) rfl fun _ _ z1 z2 z3 z4 z5 => ?_
          refine HO.gdo rfl rfl rfl rfl ?_
          refine HO.v (V.eqlI rfl rfl) (ltn rfl) ?_
          refine HO.nil ?_
          refine HQ.nxt z1 z2 z3 z4 z5 (Sub.at [10, 7, 6, 5] rfl) ?_
          refine HP.one (i := 82) rfl fun _ _ z1 z2 z3 z4 z5 => ?_
          refine HO.v (V.pickT rfl rfl) (ltn rfl) ?_
          refine HO.nil ?_
          refine HQ.nxt z1 z2 z3 z4 z5 (Sub.at [10, 7, 6, 5] rfl) ?_
          refine HP.one (i := 83) rfl fun _ _ z1 z2 z3 z4 z5 => ?_
          refine HO.v (V.move rfl) (ltn rfl) ?_
          refine HO.nil ?_
          refine HQ.nxt z1 z2 z3 z4 z5 (Sub.at [10, 7, 6, 5] rfl) ?_
          refine HP.setT (t := 150) rfl (by rfl) ?_
          refine HP.one (i := 84) rfl fun _ _ z1 z2 z3 z4 z5 => ?_
          refine HO.gdo rfl rfl rfl rfl ?_
          refine HO.v (V.move rfl) (ltn rfl) ?_
          refine HO.nil ?_
          refine HQ.nxt z1 z2 z3 z4 z5 (Sub.at [10, 7, 6, 5] rfl) ?_
          refine HP.one (i := 85) rfl fun _ _ z1 z2 z3 z4 z5 => ?_
          refine HO.v (V.pickT rfl rfl) (ltn rfl) ?_
          refine HO.nil ?_
          refine HQ.nxt z1 z2 z3 z4 z5 (Sub.at [10, 7, 6, 5] rfl) ?_
          refine HP.one (i := 86) rfl fun _ _ z1 z2 z3 z4 z5 => ?_
          refine HO.v (V.move rfl) (ltn rfl) ?_
          refine HO.nil ?_
          refine HQ.nxt z1 z2 z3 z4 z5 (Sub.at [10, 7, 6, 5] rfl) ?_
          refine HP.setT (t := 153) rfl (by rfl) ?_
          refine HP.one (i := 87) rfl fun _ _ z1 z2 z3 z4 z5 => ?_
          refine HO.gdo rfl rfl rfl rfl ?_
          refine HO.v (V.move rfl) (ltn rfl) ?_
          refine HO.nil ?_
          refine HQ.nxt z1 z2 z3 z4 z5 (Sub.at [10, 7, 6, 5] rfl) ?_
          refine HP.one (i := 88) rfl fun _ _ z1 z2 z3 z4 z5 => ?_
          refine HO.gdo rfl rfl rfl rfl ?_
          refine HO.v (V.eqlI rfl rfl) (ltn rfl) ?_
          refine HO.nil ?_
          refine HQ.nxt z1 z2 z3 z4 z5 (Sub.at [10, 7, 6, 5] rfl) ?_
          refine HP.one (i := 89) rfl fun _ _ z1 z2 z3 z4 z5 => ?_
          refine HO.v (V.pickT rfl rfl) (ltn rfl) ?_
          refine HO.nil ?_
          refine HQ.nxt z1 z2 z3 z4 z5 (Sub.at [10, 7, 6, 5] rfl) ?_
          refine HP.one (i := 90) rfl fun _ _ z1 z2 z3 z4 z5 => ?_
          refine HO.v (V.assign rfl) (ltn rfl) ?_
          refine HO.nil ?_
          refine HQ.nxt z1 z2 z3 z4 z5 (Sub.at [10, 7, 6, 5] rfl) ?_
          refine HP.done ?_
          refine HQ.keep (.cons (t := 0) rfl (.nil)) ?_
          refine HQ.next ?_
          refine H.ret ?_
          refine HQ.end_ rfl rfl rfl rfl (.inl rfl) _ (fun a w s => res1 Try.results6 s rfl) ?_
          refine ⟨[], _, (by exact Rems.nil), ?_⟩
          exact ⟨rfl, rfl⟩
      · skip
        intro _ _ z1 z2 z3 z4 z5
        refine HO.gdo rfl rfl rfl rfl ?_
        refine HO.buildRow (encI .i64) (kqq.outs) Try.underlying27 ze3 (.cons rfl (.nil)) (.cons rfl (.nil)) (Nat.le_of_ble_eq_true rfl) (Nat.le_of_ble_eq_true rfl) (ltn rfl) ?_
        intro b100
        refine HO.nil ?_
        refine HQ.nxt z1 z2 z3 z4 z5 (Sub.at [9, 6, 5, 4] rfl) ?_
        refine HP.one (i := 31) rfl fun _ _ z1 z2 z3 z4 z5 => ?_
        refine HO.gdo rfl rfl rfl rfl ?_
        refine HO.callV ca13 rfl (.cons rfl (.cons rfl (.cons rfl (.nil)))) (add14_w _ _ _) (by exact Rems.nil) (by exact Reads.nil) (fun _ e => by cases e; exact (ltn rfl)) ?_
        rintro v98 L98 ⟨rfl, rfl⟩
        dsimp only [List.nil_append, List.cons_append]
        refine HO.nil ?_
        refine HQ.nxt z1 z2 z3 z4 z5 (Sub.at [9, 6, 5, 4] rfl) ?_
        refine HP.one (i := 32) rfl fun _ _ z1 z2 z3 z4 z5 => ?_
        refine HO.gdo rfl rfl rfl rfl ?_
        refine HO.buildRow encIn (kqq.code) Try.underlying26 ze50 (.cons rfl (.nil)) (.cons rfl (.nil)) (Nat.le_of_ble_eq_true rfl) (Nat.le_of_ble_eq_true rfl) (ltn rfl) ?_
        intro b99
        refine HO.nil ?_
        refine HQ.nxt z1 z2 z3 z4 z5 (Sub.at [10, 7, 6, 5] rfl) ?_
        refine HP.one (i := 34) rfl fun _ _ z1 z2 z3 z4 z5 => ?_
        refine HO.gdo rfl rfl rfl rfl ?_
        refine HO.call ca11 (.cons rfl (.cons rfl (.cons rfl (.nil)))) (same14_w kqq _ _ _ _ _ _ _ _ (by decide) (by decide)) (by exact Rems.nil) (by (refine Reads.row (.tail _ (.tail _ (.tail _ (.tail _ (.tail _ (.tail _ (.tail _ (.tail _ (.head _))))))))) ?_); (refine Reads.row (.tail _ (.tail _ (.tail _ (.tail _ (.tail _ (.tail _ (.tail _ (.tail _ (.tail _ (.head _)))))))))) ?_); (refine Reads.row (.head _) ?_); (refine Reads.row (.tail _ (.head _)) ?_); exact Reads.nil) (ltn rfl) ?_
        rintro v101 L101 ⟨rfl, rfl⟩
        dsimp only [List.nil_append, List.cons_append]
        refine HO.nil ?_
        refine HQ.nxt z1 z2 z3 z4 z5 (Sub.at [10, 7, 6, 5] rfl) ?_
        refine HP.one (i := 35) rfl fun _ _ z1 z2 z3 z4 z5 => ?_
        refine HO.v (V.pickT rfl rfl) (ltn rfl) ?_
        refine HO.nil ?_
        refine HQ.nxt z1 z2 z3 z4 z5 (Sub.at [10, 7, 6, 5] rfl) ?_
        refine HP.one (i := 36) rfl fun _ _ z1 z2 z3 z4 z5 => ?_
        refine HO.v (V.move rfl) (ltn rfl) ?_
        refine HO.nil ?_
        refine HQ.nxt z1 z2 z3 z4 z5 (Sub.at [10, 7, 6, 5] rfl) ?_
        refine HP.setT (t := 103) rfl (by rfl) ?_
        refine HP.one (i := 37) rfl fun _ _ z1 z2 z3 z4 z5 => ?_
        refine HO.gdo rfl rfl rfl rfl ?_
        refine HO.v (V.move rfl) (ltn rfl) ?_
        refine HO.nil ?_
        refine HQ.nxt z1 z2 z3 z4 z5 (Sub.at [10, 7, 6, 5] rfl) ?_
        refine HP.one (i := 38) rfl fun _ _ z1 z2 z3 z4 z5 => ?_
        refine HO.gdo rfl rfl rfl rfl ?_
        refine HO.v (V.len Try.underlying27 rfl) (ltn rfl) ?_
        refine HO.nil ?_
        refine HQ.nxt z1 z2 z3 z4 z5 (Sub.at [10, 7, 6, 5] rfl) ?_
        refine HP.one (i := 39) rfl fun _ _ z1 z2 z3 z4 z5 => ?_
        refine HO.gdo rfl rfl rfl rfl ?_
        refine HO.v (V.eqlI rfl rfl) (ltn rfl) ?_
        refine HO.nil ?_
        refine HQ.nxt z1 z2 z3 z4 z5 (Sub.at [10, 7, 6, 5] rfl) ?_
        refine HP.one (i := 40) rfl fun _ _ z1 z2 z3 z4 z5 => ?_
        refine HO.v (V.pickT rfl rfl) (ltn rfl) ?_
        refine HO.nil ?_
        refine HQ.nxt z1 z2 z3 z4 z5 (Sub.at [10, 7, 6, 5] rfl) ?_
        refine HP.one (i := 41) rfl fun _ _ z1 z2 z3 z4 z5 => ?_
        refine HO.v (V.move rfl) (ltn rfl) ?_
        refine HO.nil ?_
        refine HQ.nxt z1 z2 z3 z4 z5 (Sub.at [10, 7, 6, 5] rfl) ?_
        refine HP.setT (t := 108) rfl (by rfl) ?_
        refine HP.one (i := 42) rfl fun _ _ z1 z2 z3 z4 z5 => ?_
        refine HO.gdo rfl rfl rfl rfl ?_
        refine HO.v (V.move rfl) (ltn rfl) ?_
        refine HO.nil ?_
        refine HQ.nxt z1 z2 z3 z4 z5 (Sub.at [10, 7, 6, 5] rfl) ?_
        refine HP.one (i := 43) rfl fun _ _ z1 z2 z3 z4 z5 => ?_
        refine HO.gdo rfl rfl rfl rfl ?_
        refine HO.v (V.indexAddr (N := (encI .i64)) (ys := _) Try.underlying27 sz3 rfl rfl (by first | omega | decide | simp) (by first | omega | decide | simp) (by exact Has.own (.there (.there (.there (.there (.there (.there .here)))))))) (ltn rfl) ?_
        refine HO.nil ?_
        refine HQ.nxt z1 z2 z3 z4 z5 (Sub.at [10, 7, 6, 5] rfl) ?_
        refine HP.one (i := 44) rfl fun _ _ z1 z2 z3 z4 z5 => ?_
        refine HO.gdo rfl rfl rfl rfl ?_
        refine HO.v (V.loadE (N := (encI .i64)) sc3 rfl (by exact .mk (Has.own (.there (.there (.there (.there (.there (.there .here))))))) (rfl) rfl)) (ltn rfl) ?_
        refine HO.nil ?_
        refine HQ.nxt z1 z2 z3 z4 z5 (Sub.at [10, 7, 6, 5] rfl) ?_
        refine HP.one (i := 45) rfl fun _ _ z1 z2 z3 z4 z5 => ?_
        refine HO.gdo rfl rfl rfl rfl ?_
        refine HO.v (V.eqlI rfl rfl) (ltn rfl) ?_
        refine HO.nil ?_
        refine HQ.nxt z1 z2 z3 z4 z5 (Sub.at [10, 7, 6, 5] rfl) ?_
        refine HP.one (i := 46) rfl fun _ _ z1 z2 z3 z4 z5 => ?_
        refine HO.v (V.pickT rfl rfl) (ltn rfl) ?_
        refine HO.nil ?_
        refine HQ.nxt z1 z2 z3 z4 z5 (Sub.at [10, 7, 6, 5] rfl) ?_
        refine HP.one (i := 47) rfl fun _ _ z1 z2 z3 z4 z5 => ?_
        refine HO.v (V.move rfl) (ltn rfl) ?_
        refine HO.nil ?_
        refine HQ.nxt z1 z2 z3 z4 z5 (Sub.at [10, 7, 6, 5] rfl) ?_
        refine HP.setT (t := 114) rfl (by rfl) ?_
        refine HP.one (i := 48) rfl fun _ _ z1 z2 z3 z4 z5 => ?_
        refine HO.gdo rfl rfl rfl rfl ?_
        refine HO.v (V.move rfl) (ltn rfl) ?_
        refine HO.nil ?_
        refine HQ.nxt z1 z2 z3 z4 z5 (Sub.at [10, 7, 6, 5] rfl) ?_
        refine HP.one (i := 49) rfl fun _ _ z1 z2 z3 z4 z5 => ?_
        refine HO.gdo rfl rfl rfl rfl ?_
        refine HO.v (V.indexAddr (N := (encI .i64)) (ys := _) Try.underlying27 sz3 rfl rfl (by first | omega | decide | simp) (by first | omega | decide | simp) (by exact Has.own (.there (.there (.there (.there (.there (.there .here)))))))) (ltn rfl) ?_
        refine HO.nil ?_
        refine HQ.nxt z1 z2 z3 z4 z5 (Sub.at [10, 7, 6, 5] rfl) ?_
        refine HP.one (i := 50) rfl fun _ _ z1 z2 z3 z4 z5 => ?_
        refine HO.gdo rfl rfl rfl rfl ?_
        refine HO.v (V.loadE (N := (encI .i64)) sc3 rfl (by exact .mk (Has.own (.there (.there (.there (.there (.there (.there .here))))))) (rfl) rfl)) (ltn rfl) ?_
        refine HO.nil ?_
        refine HQ.nxt z1 z2 z3 z4 z5 (Sub.at [10, 7, 6, 5] rfl) ?_
        refine HP.one (i := 51) rfl fun _ _ z1 z2 z3 z4 z5 => ?_
        refine HO.gdo rfl rfl rfl rfl ?_
        refine HO.v (V.eqlI rfl rfl) (ltn rfl) ?_
        refine HO.nil ?_
        refine HQ.nxt z1 z2 z3 z4 z5 (Sub.at [10, 7, 6, 5] rfl) ?_
        refine HP.one (i := 52) rfl fun _ _ z1 z2 z3 z4 z5 => ?_
        refine HO.v (V.pickT rfl rfl) (ltn rfl) ?_
        refine HO.nil ?_
        refine HQ.nxt z1 z2 z3 z4 z5 (Sub.at [10, 7, 6, 5] rfl) ?_
        refine HP.one (i := 53) rfl fun _ _ z1 z2 z3 z4 z5 => ?_
        refine HO.v (V.move rfl) (ltn rfl) ?_
        refine HO.nil ?_
        refine HQ.nxt z1 z2 z3 z4 z5 (Sub.at [10, 7, 6, 5] rfl) ?_
        refine HP.setT (t := 120) rfl (by rfl) ?_
        refine HP.one (i := 54) rfl fun _ _ z1 z2 z3 z4 z5 => ?_
        refine HO.gdo rfl rfl rfl rfl ?_
        refine HO.v (V.move rfl) (ltn rfl) ?_
        refine HO.nil ?_
        refine HQ.nxt z1 z2 z3 z4 z5 (Sub.at [10, 7, 6, 5] rfl) ?_
        refine HP.one (i := 55) rfl fun _ _ z1 z2 z3 z4 z5 => ?_
        refine HO.gdo rfl rfl rfl rfl ?_
        refine HO.v (V.indexAddr (N := (encI .i64)) (ys := _) Try.underlying27 sz3 rfl rfl (by first | omega | decide | simp) (by first | omega | decide | simp) (by exact Has.own (.there (.there (.there (.there (.there (.there .here)))))))) (ltn rfl) ?_
        refine HO.nil ?_
        refine HQ.nxt z1 z2 z3 z4 z5 (Sub.at [10, 7, 6, 5] rfl) ?_
        refine HP.one (i := 56) rfl fun _ _ z1 z2 z3 z4 z5 => ?_
        refine HO.gdo rfl rfl rfl rfl ?_
        refine HO.v (V.loadE (N := (encI .i64)) sc3 rfl (by exact .mk (Has.own (.there (.there (.there (.there (.there (.there .here))))))) (rfl) rfl)) (ltn rfl) ?_
        refine HO.nil ?_
        refine HQ.nxt z1 z2 z3 z4 z5 (Sub.at [10, 7, 6, 5] rfl) ?_
        refine HP.one (i := 57) rfl fun _ _ z1 z2 z3 z4 z5 => ?_
        refine HO.gdo rfl rfl rfl rfl ?_
        refine HO.v (V.eqlI rfl rfl) (ltn rfl) ?_
        refine HO.nil ?_
        refine HQ.nxt z1 z2 z3 z4 z5 (Sub.at [10, 7, 6, 5] rfl) ?_
        refine HP.one (i := 58) rfl fun _ _ z1 z2 z3 z4 z5 => ?_
        refine HO.v (V.pickT rfl rfl) (ltn rfl) ?_
        refine HO.nil ?_
        refine HQ.nxt z1 z2 z3 z4 z5 (Sub.at [10, 7, 6, 5] rfl) ?_
        refine HP.one (i := 59) rfl fun _ _ z1 z2 z3 z4 z5 => ?_
        refine HO.v (V.move rfl) (ltn rfl) ?_
        refine HO.nil ?_
        refine HQ.nxt z1 z2 z3 z4 z5 (Sub.at [10, 7, 6, 5] rfl) ?_
        refine HP.setT (t := 126) rfl (by rfl) ?_
        refine HP.one (i := 60) rfl fun _ _ z1 z2 z3 z4 z5 => ?_
        refine HO.gdo rfl rfl rfl rfl ?_
        refine HO.v (V.move rfl) (ltn rfl) ?_
        refine HO.nil ?_
        refine HQ.nxt z1 z2 z3 z4 z5 (Sub.at [10, 7, 6, 5] rfl) ?_
        refine HP.one (i := 61) rfl fun _ _ z1 z2 z3 z4 z5 => ?_
        refine HO.gdo rfl rfl rfl rfl ?_
        refine HO.v (V.len Try.underlying27 rfl) (ltn rfl) ?_
        refine HO.nil ?_
        refine HQ.nxt z1 z2 z3 z4 z5 (Sub.at [10, 7, 6, 5] rfl) ?_
        refine HP.one (i := 62) rfl fun _ _ z1 z2 z3 z4 z5 => ?_
        refine HO.gdo rfl rfl rfl rfl ?_
        refine HO.v (V.eqlI rfl rfl) (ltn rfl) ?_
        refine HO.nil ?_
        refine HQ.nxt z1 z2 z3 z4 z5 (Sub.at [10, 7, 6, 5] rfl) ?_
        refine HP.one (i := 63) rfl fun _ _ z1 z2 z3 z4 z5 => ?_
        refine HO.v (V.pickT rfl rfl) (ltn rfl) ?_
        refine HO.nil ?_
        refine HQ.nxt z1 z2 z3 z4 z5 (Sub.at [10, 7, 6, 5] rfl) ?_
        refine HP.one (i := 64) rfl fun _ _ z1 z2 z3 z4 z5 => ?_
        refine HO.v (V.move rfl) (ltn rfl) ?_
        refine HO.nil ?_
        refine HQ.nxt z1 z2 z3 z4 z5 (Sub.at [10, 7, 6, 5] rfl) ?_
        refine HP.setT (t := 131) rfl (by rfl) ?_
        refine HP.one (i := 65) rfl fun _ _ z1 z2 z3 z4 z5 => ?_
        refine HO.gdo rfl rfl rfl rfl ?_
        refine HO.v (V.move rfl) (ltn rfl) ?_
        refine HO.nil ?_
        refine HQ.nxt z1 z2 z3 z4 z5 (Sub.at [10, 7, 6, 5] rfl) ?_
        refine HP.one (i := 66) rfl fun _ _ z1 z2 z3 z4 z5 => ?_
        refine HO.gdo rfl rfl rfl rfl ?_
        refine HO.v (V.indexAddr (N := (encI .i64)) (ys := _) Try.underlying27 sz3 rfl rfl (by first | omega | decide | simp) (by first | omega | decide | simp) (by exact Has.own (.there (.there (.there (.there (.there .here))))))) (ltn rfl) ?_
        refine HO.nil ?_
        refine HQ.nxt z1 z2 z3 z4 z5 (Sub.at [10, 7, 6, 5] rfl) ?_
        refine HP.one (i := 67) rfl fun _ _ z1 z2 z3 z4 z5 => ?_
        refine HO.gdo rfl rfl rfl rfl ?_
        refine HO.v (V.loadE (N := (encI .i64)) sc3 rfl (by exact .mk (Has.own (.there (.there (.there (.there (.there .here)))))) (rfl) rfl)) (ltn rfl) ?_
        refine HO.nil ?_
        refine HQ.nxt z1 z2 z3 z4 z5 (Sub.at [10, 7, 6, 5] rfl) ?_
        refine HP.one (i := 68) rfl fun _ _ z1 z2 z3 z4 z5 => ?_
        refine HO.gdo rfl rfl rfl rfl ?_
        refine HO.v (V.eqlI rfl rfl) (ltn rfl) ?_
        refine HO.nil ?_
        refine HQ.nxt z1 z2 z3 z4 z5 (Sub.at [10, 7, 6, 5] rfl) ?_
        refine HP.one (i := 69) rfl fun _ _ z1 z2 z3 z4 z5 => ?_
        refine HO.v (V.pickT rfl rfl) (ltn rfl) ?_
        refine HO.nil ?_
        refine HQ.nxt z1 z2 z3 z4 z5 (Sub.at [10, 7, 6, 5] rfl) ?_
        refine HP.one (i := 70) rfl fun _ _ z1 z2 z3 z4 z5 => ?_
        refine HO.v (V.move rfl) (ltn rfl) ?_
        refine HO.nil ?_
        refine HQ.nxt z1 z2 z3 z4 z5 (Sub.at [10, 7, 6, 5] rfl) ?_
        refine HP.setT (t := 137) rfl (by rfl) ?_
        refine HP.one (i := 71) rfl fun _ _ z1 z2 z3 z4 z5 => ?_
        refine HO.gdo rfl rfl rfl rfl ?_
        refine HO.v (V.move rfl) (ltn rfl) ?_
        refine HO.nil ?_
        refine HQ.nxt z1 z2 z3 z4 z5 (Sub.at [10, 7, 6, 5] rfl) ?_
        refine HP.one (i := 72) rfl fun _ _ z1 z2 z3 z4 z5 => ?_
        refine HO.gdo rfl rfl rfl rfl ?_
        refine HO.v (V.indexAddr (N := (encI .i64)) (ys := _) Try.underlying27 sz3 rfl rfl (by first | omega | decide | simp) (by first | omega | decide | simp) (by exact Has.own (.there (.there (.there (.there (.there .here))))))) (ltn rfl) ?_
        refine HO.nil ?_
        refine HQ.nxt z1 z2 z3 z4 z5 (Sub.at [10, 7, 6, 5] rfl) ?_
        refine HP.one (i := 73) rfl fun _ _ z1 z2 z3 z4 z5 => ?_
        refine HO.gdo rfl rfl rfl rfl ?_
        refine HO.v (V.loadE (N := (encI .i64)) sc3 rfl (by exact .mk (Has.own (.there (.there (.there (.there (.there .here)))))) (rfl) rfl)) (ltn rfl) ?_
        refine HO.nil ?_
        refine HQ.nxt z1 z2 z3 z4 z5 (Sub.at [10, 7, 6, 5] rfl) ?_
        refine HP.one (i := 74) rfl fun _ _ z1 z2 z3 z4 z5 => ?_
        refine HO.gdo rfl rfl rfl rfl ?_
        refine HO.v (V.eqlI rfl rfl) (ltn rfl) ?_
        refine HO.nil ?_
        refine HQ.nxt z1 z2 z3 z4 z5 (Sub.at [10, 7, 6, 5] rfl) ?_
        refine HP.one (i := 75) rfl fun _ _ z1 z2 z3 z4 z5 => ?_
        refine HO.v (V.pickT rfl rfl) (ltn rfl) ?_
        refine HO.nil ?_
        refine HQ.nxt z1 z2 z3 z4 z5 (Sub.at [10, 7, 6, 5] rfl) ?_
        refine HP.one (i := 76) rfl fun _ _ z1 z2 z3 z4 z5 => ?_
        refine HO.v (V.move rfl) (ltn rfl) ?_
        refine HO.nil ?_
        refine HQ.nxt z1 z2 z3 z4 z5 (Sub.at [10, 7, 6, 5] rfl) ?_
        refine HP.setT (t := 143) rfl (by rfl) ?_
        refine HP.one (i := 77) rfl fun _ _ z1 z2 z3 z4 z5 => ?_
        refine HO.gdo rfl rfl rfl rfl ?_
        refine HO.v (V.move rfl) (ltn rfl) ?_
        refine HO.nil ?_
        refine HQ.nxt z1 z2 z3 z4 z5 (Sub.at [10, 7, 6, 5] rfl) ?_
        refine HP.one (i := 78) rfl fun _ _ z1 z2 z3 z4 z5 => ?_
        refine HO.v (V.pickT rfl rfl) (ltn rfl) ?_
        refine HO.nil ?_
        refine HQ.nxt z1 z2 z3 z4 z5 (Sub.at [10, 7, 6, 5] rfl) ?_
        refine HP.one (i := 79) rfl fun _ _ z1 z2 z3 z4 z5 => ?_
        refine HO.v (V.move rfl) (ltn rfl) ?_
        refine HO.nil ?_
        refine HQ.nxt z1 z2 z3 z4 z5 (Sub.at [10, 7, 6, 5] rfl) ?_
        refine HP.setT (t := 146) rfl (by rfl) ?_
        refine HP.one (i := 80) rfl fun _ _ z1 z2 z3 z4 z5 => ?_
        refine HO.gdo rfl rfl rfl rfl ?_
        refine HO.v (V.move rfl) (ltn rfl) ?_
        refine HO.nil ?_
        refine HQ.nxt z1 z2 z3 z4 z5 (Sub.at [10, 7, 6, 5] rfl) ?_
        refine HP.one (i := 81) rfl fun _ _ z1 z2 z3 z4 z5 => ?_
        refine HO.gdo rfl rfl rfl rfl ?_
        refine HO.v (V.eqlI rfl rfl) (ltn rfl) ?_
        refine HO.nil ?_
        refine HQ.nxt z1 z2 z3 z4 z5 (Sub.at [10, 7, 6, 5] rfl) ?_
        refine HP.one (i := 82) rfl fun _ _ z1 z2 z3 z4 z5 => ?_
        refine HO.v (V.pickT rfl rfl) (ltn rfl) ?_
        refine HO.nil ?_
        refine HQ.nxt z1 z2 z3 z4 z5 (Sub.at [10, 7, 6, 5] rfl) ?_
        refine HP.one (i := 83) rfl fun _ _ z1 z2 z3 z4 z5 => ?_
        refine HO.v (V.move rfl) (ltn rfl) ?_
        refine HO.nil ?_
        refine HQ.nxt z1 z2 z3 z4 z5 (Sub.at [10, 7, 6, 5] rfl) ?_
        refine HP.setT (t := 150) rfl (by rfl) ?_
        refine HP.one (i := 84) rfl fun _ _ z1 z2 z3 z4 z5 => ?_
        refine HO.gdo rfl rfl rfl rfl ?_
        refine HO.v (V.move rfl) (ltn rfl) ?_
        refine HO.nil ?_
        refine HQ.nxt z1 z2 z3 z4 z5 (Sub.at [10, 7, 6, 5] rfl) ?_
        refine HP.one (i := 85) rfl fun _ _ z1 z2 z3 z4 z5 => ?_
        refine HO.v (V.pickT rfl rfl) (ltn rfl) ?_
        refine HO.nil ?_
        refine HQ.nxt z1 z2 z3 z4 z5 (Sub.at [10, 7, 6, 5] rfl) ?_
        refine HP.one (i := 86) rfl fun _ _ z1 z2 z3 z4 z5 => ?_
        refine HO.v (V.move rfl) (ltn rfl) ?_
        refine HO.nil ?_
        refine HQ.nxt z1 z2 z3 z4 z5 (Sub.at [10, 7, 6, 5] rfl) ?_
        refine HP.setT (t := 153) rfl (by rfl) ?_
        refine HP.one (i := 87) rfl fun _ _ z1 z2 z3 z4 z5 => ?_
        refine HO.gdo rfl rfl rfl rfl ?_
        refine HO.v (V.move rfl) (ltn rfl) ?_
        refine HO.nil ?_
        refine HQ.nxt z1 z2 z3 z4 z5 (Sub.at [10, 7, 6, 5] rfl) ?_
        refine HP.one (i := 88) rfl fun _ _ z1 z2 z3 z4 z5 => ?_
        refine HO.gdo rfl rfl rfl rfl ?_
        refine HO.v (V.eqlI rfl rfl) (ltn rfl) ?_
        refine HO.nil ?_
        refine HQ.nxt z1 z2 z3 z4 z5 (Sub.at [10, 7, 6, 5] rfl) ?_
        refine HP.one (i := 89) rfl fun _ _ z1 z2 z3 z4 z5 => ?_
        refine HO.v (V.pickT rfl rfl) (ltn rfl) ?_
        refine HO.nil ?_
        refine HQ.nxt z1 z2 z3 z4 z5 (Sub.at [10, 7, 6, 5] rfl) ?_
        refine HP.one (i := 90) rfl fun _ _ z1 z2 z3 z4 z5 => ?_
        refine HO.v (V.assign rfl) (ltn rfl) ?_
        refine HO.nil ?_
        refine HQ.nxt z1 z2 z3 z4 z5 (Sub.at [10, 7, 6, 5] rfl) ?_
        refine HP.done ?_
        refine HQ.keep (.cons (t := 0) rfl (.nil)) ?_
        refine HQ.next ?_
        refine H.ret ?_
        refine HQ.end_ rfl rfl rfl rfl (.inl rfl) _ (fun a w s => res1 Try.results6 s rfl) ?_
        refine ⟨[], _, (by exact Rems.nil), ?_⟩
        exact ⟨rfl, rfl⟩
  · skip
    intro _ _ z1 z2 z3 z4 z5
    refine HO.gdo rfl rfl rfl rfl ?_
    refine HO.buildRow (encI .i64) (kpp.outs) Try.underlying27 ze3 (.cons rfl (.cons rfl (.nil))) (.cons rfl (.cons rfl (.nil))) (Nat.le_of_ble_eq_true rfl) (Nat.le_of_ble_eq_true rfl) (ltn rfl) ?_
    intro b92
    refine HO.nil ?_
    refine HQ.nxt z1 z2 z3 z4 z5 (Sub.at [7, 4, 3, 2] rfl) ?_
    refine HP.one (i := 21) rfl fun _ _ z1 z2 z3 z4 z5 => ?_
    refine HO.gdo rfl rfl rfl rfl ?_
    refine HO.callV ca13 rfl (.cons rfl (.cons rfl (.cons rfl (.nil)))) (add14_w _ _ _) (by exact Rems.nil) (by exact Reads.nil) (fun _ e => by cases e; exact (ltn rfl)) ?_
    rintro v88 L88 ⟨rfl, rfl⟩
    dsimp only [List.nil_append, List.cons_append]
    refine HO.nil ?_
    refine HQ.nxt z1 z2 z3 z4 z5 (Sub.at [7, 4, 3, 2] rfl) ?_
    refine HP.one (i := 24) rfl fun _ _ z1 z2 z3 z4 z5 => ?_
    refine HO.gdo rfl rfl rfl rfl ?_
    refine HO.buildRow encIn (kpp.code) Try.underlying26 ze50 (.cons rfl (.cons rfl (.cons rfl (.nil)))) (.cons rfl (.cons rfl (.cons rfl (.nil)))) (Nat.le_of_ble_eq_true rfl) (Nat.le_of_ble_eq_true rfl) (ltn rfl) ?_
    intro b91
    refine HO.nil ?_
    refine HQ.nxt z1 z2 z3 z4 z5 (Sub.at [8, 5, 4, 3] rfl) ?_
    refine HP.one (i := 26) rfl fun _ _ z1 z2 z3 z4 z5 => ?_
    refine HO.gdo rfl rfl rfl rfl ?_
    refine HO.call ca11 (.cons rfl (.cons rfl (.cons rfl (.nil)))) (same14_w kpp _ _ _ _ _ _ _ _ (by decide) (by decide)) (by exact Rems.nil) (by (refine Reads.row (.tail _ (.tail _ (.tail _ (.tail _ (.tail _ (.tail _ (.tail _ (.tail _ (.tail _ (.head _)))))))))) ?_); (refine Reads.row (.tail _ (.tail _ (.tail _ (.tail _ (.tail _ (.tail _ (.tail _ (.tail _ (.tail _ (.tail _ (.head _))))))))))) ?_); (refine Reads.row (.head _) ?_); (refine Reads.row (.tail _ (.head _)) ?_); exact Reads.nil) (ltn rfl) ?_
    rintro v93 L93 ⟨rfl, rfl⟩
    dsimp only [List.nil_append, List.cons_append]
    refine HO.nil ?_
    refine HQ.nxt z1 z2 z3 z4 z5 (Sub.at [8, 5, 4, 3] rfl) ?_
    refine HP.one (i := 27) rfl fun _ _ z1 z2 z3 z4 z5 => ?_
    refine HO.v (V.pickT rfl rfl) (ltn rfl) ?_
    refine HO.nil ?_
    refine HQ.nxt z1 z2 z3 z4 z5 (Sub.at [8, 5, 4, 3] rfl) ?_
    refine HP.one (i := 28) rfl fun _ _ z1 z2 z3 z4 z5 => ?_
    refine HO.v (V.move rfl) (ltn rfl) ?_
    refine HO.nil ?_
    refine HQ.nxt z1 z2 z3 z4 z5 (Sub.at [8, 5, 4, 3] rfl) ?_
    refine HP.setT (t := 95) rfl (by rfl) ?_
    refine HP.take (i := 29) rfl rfl (ltn rfl) (gives_of (want_some rfl rfl rfl rfl) (V.loadA ag29 rfl (by exact .mk (.there .here) (by repeat constructor)))) (Sub.at [8, 5, 4, 3] rfl) ?_
    refine HP.take (i := 30) rfl rfl (ltn rfl) (gives_of (want_some rfl rfl rfl rfl) (V.move rfl)) (Sub.at [8, 5, 4, 3] rfl) ?_
    refine HP.two (i := 31) (j := 33) rfl rfl ?_ ?_
    · skip
      intro _ _ z1 z2 z3 z4 z5
      refine HO.gdo rfl rfl rfl rfl ?_
      refine HO.callV ca13 rfl (.cons rfl (.cons rfl (.cons rfl (.nil)))) (add14_w _ _ _) (by exact Rems.nil) (by exact Reads.nil) (fun _ e => by cases e; exact (ltn rfl)) ?_
      rintro v98 L98 ⟨rfl, rfl⟩
      dsimp only [List.nil_append, List.cons_append]
      refine HO.nil ?_
      refine HQ.nxt z1 z2 z3 z4 z5 (Sub.at [8, 5, 4, 3] rfl) ?_
      refine HP.two (i := 32) (j := 33) rfl rfl ?_ ?_
      · skip
        intro _ _ z1 z2 z3 z4 z5
        refine HO.gdo rfl rfl rfl rfl ?_
        refine HO.buildRow encIn (kqq.code) Try.underlying26 ze50 (.cons rfl (.nil)) (.cons rfl (.nil)) (Nat.le_of_ble_eq_true rfl) (Nat.le_of_ble_eq_true rfl) (ltn rfl) ?_
        intro b99
        refine HO.nil ?_
        refine HQ.nxt z1 z2 z3 z4 z5 (Sub.at [9, 6, 5, 4] rfl) ?_
        refine HP.one (i := 33) rfl fun _ _ z1 z2 z3 z4 z5 => ?_
        refine HO.gdo rfl rfl rfl rfl ?_
        refine HO.buildRow (encI .i64) (kqq.outs) Try.underlying27 ze3 (.cons rfl (.nil)) (.cons rfl (.nil)) (Nat.le_of_ble_eq_true rfl) (Nat.le_of_ble_eq_true rfl) (ltn rfl) ?_
        intro b100
        refine HO.nil ?_
        refine HQ.nxt z1 z2 z3 z4 z5 (Sub.at [10, 7, 6, 5] rfl) ?_
        refine HP.one (i := 34) rfl fun _ _ z1 z2 z3 z4 z5 => ?_
        refine HO.gdo rfl rfl rfl rfl ?_
        refine HO.call ca11 (.cons rfl (.cons rfl (.cons rfl (.nil)))) (same14_w kqq _ _ _ _ _ _ _ _ (by decide) (by decide)) (by exact Rems.nil) (by (refine Reads.row (.tail _ (.tail _ (.tail _ (.tail _ (.tail _ (.tail _ (.tail _ (.tail _ (.head _))))))))) ?_); (refine Reads.row (.tail _ (.tail _ (.tail _ (.tail _ (.tail _ (.tail _ (.tail _ (.tail _ (.tail _ (.head _)))))))))) ?_); (refine Reads.row (.tail _ (.head _)) ?_); (refine Reads.row (.head _) ?_); exact Reads.nil) (ltn rfl) ?_
        rintro v101 L101 ⟨rfl, rfl⟩
        dsimp only [List.nil_append, List.cons_append]
        refine HO.nil ?_
        refine HQ.nxt z1 z2 z3 z4 z5 (Sub.at [10, 7, 6, 5] rfl) ?_
        refine HP.one (i := 35) rfl fun _ _ z1 z2 z3 z4 z5 => ?_
        refine HO.v (V.pickT rfl rfl) (ltn rfl) ?_
        refine HO.nil ?_
        refine HQ.nxt z1 z2 z3 z4 z5 (Sub.at [10, 7, 6, 5] rfl) ?_
        refine HP.one (i := 36) rfl fun _ _ z1 z2 z3 z4 z5 => ?_
        refine HO.v (V.move rfl) (ltn rfl) ?_
        refine HO.nil ?_
        refine HQ.nxt z1 z2 z3 z4 z5 (Sub.at [10, 7, 6, 5] rfl) ?_
        refine HP.setT (t := 103) rfl (by rfl) ?_
        refine HP.one (i := 37) rfl fun _ _ z1 z2 z3 z4 z5 => ?_
        refine HO.gdo rfl rfl rfl rfl ?_
        refine HO.v (V.move rfl) (ltn rfl) ?_
        refine HO.nil ?_
        refine HQ.nxt z1 z2 z3 z4 z5 (Sub.at [10, 7, 6, 5] rfl) ?_
        refine HP.one (i := 38) rfl fun _ _ z1 z2 z3 z4 z5 => ?_
        refine HO.gdo rfl rfl rfl rfl ?_
        refine HO.v (V.len Try.underlying27 rfl) (ltn rfl) ?_
        refine HO.nil ?_
        refine HQ.nxt z1 z2 z3 z4 z5 (Sub.at [10, 7, 6, 5] rfl) ?_
        refine HP.one (i := 39) rfl fun _ _ z1 z2 z3 z4 z5 => ?_
        refine HO.gdo rfl rfl rfl rfl ?_
        refine HO.v (V.eqlI rfl rfl) (ltn rfl) ?_
        refine HO.nil ?_
        refine HQ.nxt z1 z2 z3 z4 z5 (Sub.at [10, 7, 6, 5] rfl) ?_
        refine HP.one (i := 40) rfl fun _ _ z1 z2 z3 z4 z5 => ?_
        refine HO.v (V.pickT rfl rfl) (ltn rfl) ?_
        refine HO.nil ?_
        refine HQ.nxt z1 z2 z3 z4 z5 (Sub.at [10, 7, 6, 5] rfl) ?_
        refine HP.one (i := 41) rfl fun _ _ z1 z2 z3 z4 z5 => ?_
        refine HO.v (V.move rfl) (ltn rfl) ?_
        refine HO.nil ?_
        refine HQ.nxt z1 z2 z3 z4 z5 (Sub.at [10, 7, 6, 5] rfl) ?_
        refine HP.setT (t := 108) rfl (by rfl) ?_
        refine HP.one (i := 42) rfl fun _ _ z1 z2 z3 z4 z5 => ?_
        refine HO.gdo rfl rfl rfl rfl ?_
        refine HO.v (V.move rfl) (ltn rfl) ?_
        refine HO.nil ?_
        refine HQ.nxt z1 z2 z3 z4 z5 (Sub.at [10, 7, 6, 5] rfl) ?_
        refine HP.one (i := 43) rfl fun _ _ z1 z2 z3 z4 z5 => ?_
        refine HO.gdo rfl rfl rfl rfl ?_
        refine HO.v (V.indexAddr (N := (encI .i64)) (ys := _) Try.underlying27 sz3 rfl rfl (by first | omega | decide | simp) (by first | omega | decide | simp) (by exact Has.own (.there (.there (.there (.there (.there (.there .here)))))))) (ltn rfl) ?_
        refine HO.nil ?_
        refine HQ.nxt z1 z2 z3 z4 z5 (Sub.at [10, 7, 6, 5] rfl) ?_
        refine HP.one (i := 44) rfl fun _ _ z1 z2 z3 z4 z5 => ?_
        refine HO.gdo rfl rfl rfl rfl ?_
        refine HO.v (V.loadE (N := (encI .i64)) sc3 rfl (by exact .mk (Has.own (.there (.there (.there (.there (.there (.there .here))))))) (rfl) rfl)) (ltn rfl) ?_
        refine HO.nil ?_
        refine HQ.nxt z1 z2 z3 z4 z5 (Sub.at [10, 7, 6, 5] rfl) ?_
        refine HP.one (i := 45) rfl fun _ _ z1 z2 z3 z4 z5 => ?_
        refine HO.gdo rfl rfl rfl rfl ?_
        refine HO.v (V.eqlI rfl rfl) (ltn rfl) ?_
        refine HO.nil ?_
        refine HQ.nxt z1 z2 z3 z4 z5 (Sub.at [10, 7, 6, 5] rfl) ?_
        refine HP.one (i := 46) rfl fun _ _ z1 z2 z3 z4 z5 => ?_
        refine HO.v (V.pickT rfl rfl) (ltn rfl) ?_
        refine HO.nil ?_
        refine HQ.nxt z1 z2 z3 z4 z5 (Sub.at [10, 7, 6, 5] rfl) ?_
        refine HP.one (i := 47) rfl fun _ _ z1 z2 z3 z4 z5 => ?_
        refine HO.v (V.move rfl) (ltn rfl) ?_
        refine HO.nil ?_
        refine HQ.nxt z1 z2 z3 z4 z5 (Sub.at [10, 7, 6, 5] rfl) ?_
        refine HP.setT (t := 114) rfl (by rfl) ?_
        refine HP.one (i := 48) rfl fun _ _ z1 z2 z3 z4 z5 => ?_
        refine HO.gdo rfl rfl rfl rfl ?_
        refine HO.v (V.move rfl) (ltn rfl) ?_
        refine HO.nil ?_
        refine HQ.nxt z1 z2 z3 z4 z5 (Sub.at [10, 7, 6, 5] rfl) ?_
        refine HP.one (i := 49) rfl fun _ _ z1 z2 z3 z4 z5 => ?_
        refine HO.gdo rfl rfl rfl rfl ?_
        refine HO.v (V.indexAddr (N := (encI .i64)) (ys := _) Try.underlying27 sz3 rfl rfl (by first | omega | decide | simp) (by first | omega | decide | simp) (by exact Has.own (.there (.there (.there (.there (.there (.there .here)))))))) (ltn rfl) ?_
        refine HO.nil ?_
        refine HQ.nxt z1 z2 z3 z4 z5 (Sub.at [10, 7, 6, 5] rfl) ?_
        refine HP.one (i := 50) rfl fun _ _ z1 z2 z3 z4 z5 => ?_
        refine HO.gdo rfl rfl rfl rfl ?_
        refine HO.v (V.loadE (N := (encI .i64)) sc3 rfl (by exact .mk (Has.own (.there (.there (.there (.there (.there (.there .here))))))) (rfl) rfl)) (ltn rfl) ?_
        refine HO.nil ?_
        refine HQ.nxt z1 z2 z3 z4 z5 (Sub.at [10, 7, 6, 5] rfl) ?_
        refine HP.one (i := 51) rfl fun _ _ z1 z2 z3 z4 z5 => ?_
        refine HO.gdo rfl rfl rfl rfl ?_
        refine HO.v (V.eqlI rfl rfl) (ltn rfl) ?_
        refine HO.nil ?_
        refine HQ.nxt z1 z2 z3 z4 z5 (Sub.at [10, 7, 6, 5] rfl) ?_
        refine HP.one (i := 52) rfl fun _ _ z1 z2 z3 z4 z5 => ?_
        refine HO.v (V.pickT rfl rfl) (ltn rfl) ?_
        refine HO.nil ?_
        refine HQ.nxt z1 z2 z3 z4 z5 (Sub.at [10, 7, 6, 5] rfl) ?_
        refine HP.one (i := 53) rfl fun _ _ z1 z2 z3 z4 z5 => ?_
        refine HO.v (V.move rfl) (ltn rfl) ?_
        refine HO.nil ?_
        refine HQ.nxt z1 z2 z3 z4 z5 (Sub.at [10, 7, 6, 5] rfl) ?_
        refine HP.setT (t := 120) rfl (by rfl) ?_
        refine HP.one (i := 54) rfl fun _ _ z1 z2 z3 z4 z5 => ?_
        refine HO.gdo rfl rfl rfl rfl ?_
        refine HO.v (V.move rfl) (ltn rfl) ?_
        refine HO.nil ?_
        refine HQ.nxt z1 z2 z3 z4 z5 (Sub.at [10, 7, 6, 5] rfl) ?_
        refine HP.one (i := 55) rfl fun _ _ z1 z2 z3 z4 z5 => ?_
        refine HO.gdo rfl rfl rfl rfl ?_
        refine HO.v (V.indexAddr (N := (encI .i64)) (ys := _) Try.underlying27 sz3 rfl rfl (by first | omega | decide | simp) (by first | omega | decide | simp) (by exact Has.own (.there (.there (.there (.there (.there (.there .here)))))))) (ltn rfl) ?_
        refine HO.nil ?_
        refine HQ.nxt z1 z2 z3 z4 z5 (Sub.at [10, 7, 6, 5] rfl) ?_
        refine HP.one (i := 56) rfl fun _ _ z1 z2 z3 z4 z5 => ?_
        refine HO.gdo rfl rfl rfl rfl ?_
        refine HO.v (V.loadE (N := (encI .i64)) sc3 rfl (by exact .mk (Has.own (.there (.there (.there (.there (.there (.there .here))))))) (rfl) rfl)) (ltn rfl) ?_
        refine HO.nil ?_
        refine HQ.nxt z1 z2 z3 z4 z5 (Sub.at [10, 7, 6, 5] rfl) ?_
        refine HP.one (i := 57) rfl fun _ _ z1 z2 z3 z4 z5 => ?_
        refine HO.gdo rfl rfl rfl rfl ?_
        refine HO.v (V.eqlI rfl rfl) (ltn rfl) ?_
        refine HO.nil ?_
        refine HQ.nxt z1 z2 z3 z4 z5 (Sub.at [10, 7, 6, 5] rfl) ?_
        refine HP.one (i := 58) rfl fun _ _ z1 z2 z3 z4 z5 => ?_
        refine HO.v (V.pickT rfl rfl) (ltn rfl) ?_
        refine HO.nil ?_
        refine HQ.nxt z1 z2 z3 z4 z5 (Sub.at [10, 7, 6, 5] rfl) ?_
        refine HP.one (i := 59) rfl fun _ _ z1 z2 z3 z4 z5 => ?_
        refine HO.v (V.move rfl) (ltn rfl) ?_
        refine HO.nil ?_
        refine HQ.nxt z1 z2 z3 z4 z5 (Sub.at [10, 7, 6, 5] rfl) ?_
        refine HP.setT (t := 126) rfl (by rfl) ?_
        refine HP.one (i := 60) rfl fun _ _ z1 z2 z3 z4 z5 => ?_
        refine HO.gdo rfl rfl rfl rfl ?_
        refine HO.v (V.move rfl) (ltn rfl) ?_
        refine HO.nil ?_
        refine HQ.nxt z1 z2 z3 z4 z5 (Sub.at [10, 7, 6, 5] rfl) ?_
        refine HP.one (i := 61) rfl fun _ _ z1 z2 z3 z4 z5 => ?_
        refine HO.gdo rfl rfl rfl rfl ?_
        refine HO.v (V.len Try.underlying27 rfl) (ltn rfl) ?_
        refine HO.nil ?_
        refine HQ.nxt z1 z2 z3 z4 z5 (Sub.at [10, 7, 6, 5] rfl) ?_
        refine HP.one (i := 62) rfl fun _ _ z1 z2 z3 z4 z5 => ?_
        refine HO.gdo rfl rfl rfl rfl ?_
        refine HO.v (V.eqlI rfl rfl) (ltn rfl) ?_
        refine HO.nil ?_
        refine HQ.nxt z1 z2 z3 z4 z5 (Sub.at [10, 7, 6, 5] rfl) ?_
        refine HP.one (i := 63) rfl fun _ _ z1 z2 z3 z4 z5 => ?_
        refine HO.v (V.pickT rfl rfl) (ltn rfl) ?_
        refine HO.nil ?_
        refine HQ.nxt z1 z2 z3 z4 z5 (Sub.at [10, 7, 6, 5] rfl) ?_
        refine HP.one (i := 64) rfl fun _ _ z1 z2 z3 z4 z5 => ?_
        refine HO.v (V.move rfl) (ltn rfl) ?_
        refine HO.nil ?_
        refine HQ.nxt z1 z2 z3 z4 z5 (Sub.at [10, 7, 6, 5] rfl) ?_
        refine HP.setT (t := 131) rfl (by rfl) ?_
        refine HP.one (i := 65) rfl fun _ _ z1 z2 z3 z4 z5 => ?_
        refine HO.gdo rfl rfl rfl rfl ?_
        refine HO.v (V.move rfl) (ltn rfl) ?_
        refine HO.nil ?_
        refine HQ.nxt z1 z2 z3 z4 z5 (Sub.at [10, 7, 6, 5] rfl) ?_
        refine HP.one (i := 66) rfl fun _ _ z1 z2 z3 z4 z5 => ?_
        refine HO.gdo rfl rfl rfl rfl ?_
        refine HO.v (V.indexAddr (N := (encI .i64)) (ys := _) Try.underlying27 sz3 rfl rfl (by first | omega | decide | simp) (by first | omega | decide | simp) (by exact Has.own (.there (.there (.there (.there (.there .here))))))) (ltn rfl) ?_
        refine HO.nil ?_
        refine HQ.nxt z1 z2 z3 z4 z5 (Sub.at [10, 7, 6, 5] rfl) ?_
        refine HP.one (i := 67) rfl fun _ _ z1 z2 z3 z4 z5 => ?_
        refine HO.gdo rfl rfl rfl rfl ?_
        refine HO.v (V.loadE (N := (encI .i64)) sc3 rfl (by exact .mk (Has.own (.there (.there (.there (.there (.there .here)))))) (rfl) rfl)) (ltn rfl) ?_
        refine HO.nil ?_
        refine HQ.nxt z1 z2 z3 z4 z5 (Sub.at [10, 7, 6, 5] rfl) ?_
        refine HP.one (i := 68) rfl fun _ _ z1 z2 z3 z4 z5 => ?_
        refine HO.gdo rfl rfl rfl rfl ?_
        refine HO.v (V.eqlI rfl rfl) (ltn rfl) ?_
        refine HO.nil ?_
        refine HQ.nxt z1 z2 z3 z4 z5 (Sub.at [10, 7, 6, 5] rfl) ?_
        refine HP.one (i := 69) rfl fun _ _ z1 z2 z3 z4 z5 => ?_
        refine HO.v (V.pickT rfl rfl) (ltn rfl) ?_
        refine HO.nil ?_
        refine HQ.nxt z1 z2 z3 z4 z5 (Sub.at [10, 7, 6, 5] rfl) ?_
        refine HP.one (i := 70) rfl fun _ _ z1 z2 z3 z4 z5 => ?_
        refine HO.v (V.move rfl) (ltn rfl) ?_
        refine HO.nil ?_
        refine HQ.nxt z1 z2 z3 z4 z5 (Sub.at [10, 7, 6, 5] rfl) ?_
        refine HP.setT (t := 137) rfl (by rfl) ?_
        refine HP.one (i := 71) rfl fun _ _ z1 z2 z3 z4 z5 => ?_
        refine HO.gdo rfl rfl rfl rfl ?_
        refine HO.v (V.move rfl) (ltn rfl) ?_
        refine HO.nil ?_
        refine HQ.nxt z1 z2 z3 z4 z5 (Sub.at [10, 7, 6, 5] rfl) ?_
        refine HP.one (i := 72) rfl fun _ _ z1 z2 z3 z4 z5 => ?_
        refine HO.gdo rfl rfl rfl rfl ?_
        refine HO.v (V.indexAddr (N := (encI .i64)) (ys := _) Try.underlying27 sz3 rfl rfl (by first | omega | decide | simp) (by first | omega | decide | simp) (by exact Has.own (.there (.there (.there (.there (.there .here))))))) (ltn rfl) ?_
        refine HO.nil ?_
        refine HQ.nxt z1 z2 z3 z4 z5 (Sub.at [10, 7, 6, 5] rfl) ?_
        refine HP.one (i := 73) rfl fun _ _ z1 z2 z3 z4 z5 => ?_
        refine HO.gdo rfl rfl rfl rfl ?_
        refine HO.v (V.loadE (N := (encI .i64)) sc3 rfl (by exact .mk (Has.own (.there (.there (.there (.there (.there .here)))))) (rfl) rfl)) (ltn rfl) ?_
        refine HO.nil ?_
        refine HQ.nxt z1 z2 z3 z4 z5 (Sub.at [10, 7, 6, 5] rfl) ?_
        refine HP.one (i := 74) rfl fun _ _ z1 z2 z3 z4 z5 => ?_
        refine HO.gdo rfl rfl rfl rfl ?_
        refine HO.v (V.eqlI rfl rfl) (ltn rfl) ?_
        refine HO.nil ?_
        refine HQ.nxt z1 z2 z3 z4 z5 (Sub.at [10, 7, 6, 5] rfl) ?_
        refine HP.one (i := 75) rfl fun _ _ z1 z2 z3 z4 z5 => ?_
        refine HO.v (V.pickT rfl rfl) (ltn rfl) ?_
        refine HO.nil ?_
        refine HQ.nxt z1 z2 z3 z4 z5 (Sub.at [10, 7, 6, 5] rfl) ?_
        refine HP.one (i := 76) rfl fun _ _ z1 z2 z3 z4 z5 => ?_
        refine HO.v (V.move rfl) (ltn rfl) ?_
        refine HO.nil ?_
        refine HQ.nxt z1 z2 z3 z4 z5 (Sub.at [10, 7, 6, 5] rfl) ?_
        refine HP.setT (t := 143) rfl (by rfl) ?_
        refine HP.one (i := 77) rfl fun _ _ z1 z2 z3 z4 z5 => ?_
        refine HO.gdo rfl rfl rfl rfl ?_
        refine HO.v (V.move rfl) (ltn rfl) ?_
        refine HO.nil ?_
        refine HQ.nxt z1 z2 z3 z4 z5 (Sub.at [10, 7, 6, 5] rfl) ?_
        refine HP.one (i := 78) rfl fun _ _ z1 z2 z3 z4 z5 => ?_
        refine HO.v (V.pickT rfl rfl) (ltn rfl) ?_
        refine HO.nil ?_
        refine HQ.nxt z1 z2 z3 z4 z5 (Sub.at [10, 7, 6, 5] rfl) ?_
        refine HP.one (i := 79) rfl fun _ _ z1 z2 z3 z4 z5 => ?_
        refine HO.v (V.move rfl) (ltn rfl) ?_
        refine HO.nil ?_
        refine HQ.nxt z1 z2 z3 z4 z5 (Sub.at [10, 7, 6, 5] rfl) ?_
        refine HP.setT (t := 146) rfl (by rfl) ?_
        refine HP.one (i := 80) rfl fun _ _ z1 z2 z3 z4 z5 => ?_
        refine HO.gdo rfl rfl rfl rfl ?_
        refine HO.v (V.move rfl) (ltn rfl) ?_
        refine HO.nil ?_
        refine HQ.nxt z1 z2 z3 z4 z5 (Sub.at [10, 7, 6, 5] rfl) ?_
        refine HP.one (i := 81) rfl fun _ _ z1 z2 z3 z4 z5 => ?_
        refine HO.gdo rfl rfl rfl rfl ?_
        refine HO.v (V.eqlI rfl rfl) (ltn rfl) ?_
        refine HO.nil ?_
        refine HQ.nxt z1 z2 z3 z4 z5 (Sub.at [10, 7, 6, 5] rfl) ?_
        refine HP.one (i := 82) rfl fun _ _ z1 z2 z3 z4 z5 => ?_
        refine HO.v (V.pickT rfl rfl) (ltn rfl) ?_
        refine HO.nil ?_
        refine HQ.nxt z1 z2 z3 z4 z5 (Sub.at [10, 7, 6, 5] rfl) ?_
        refine HP.one (i := 83) rfl fun _ _ z1 z2 z3 z4 z5 => ?_
        refine HO.v (V.move rfl) (ltn rfl) ?_
        refine HO.nil ?_
        refine HQ.nxt z1 z2 z3 z4 z5 (Sub.at [10, 7, 6, 5] rfl) ?_
        refine HP.setT (t := 150) rfl (by rfl) ?_
        refine HP.one (i := 84) rfl fun _ _ z1 z2 z3 z4 z5 => ?_
        refine HO.gdo rfl rfl rfl rfl ?_
        refine HO.v (V.move rfl) (ltn rfl) ?_
        refine HO.nil ?_
        refine HQ.nxt z1 z2 z3 z4 z5 (Sub.at [10, 7, 6, 5] rfl) ?_
        refine HP.one (i := 85) rfl fun _ _ z1 z2 z3 z4 z5 => ?_
        refine HO.v (V.pickT rfl rfl) (ltn rfl) ?_
        refine HO.nil ?_
        refine HQ.nxt z1 z2 z3 z4 z5 (Sub.at [10, 7, 6, 5] rfl) ?_
        refine HP.one (i := 86) rfl fun _ _ z1 z2 z3 z4 z5 => ?_
        refine HO.v (V.move rfl) (ltn rfl) ?_
        refine HO.nil ?_
        refine HQ.nxt z1 z2 z3 z4 z5 (Sub.at [10, 7, 6, 5] rfl) ?_
        refine HP.setT (t := 153) rfl (by rfl) ?_
        refine HP.one (i := 87) rfl fun _ _ z1 z2 z3 z4 z5 => ?_
        refine HO.gdo rfl rfl rfl rfl ?_
        refine HO.v (V.move rfl) (ltn rfl) ?_
        refine HO.nil ?_
        refine HQ.nxt z1 z2 z3 z4 z5 (Sub.at [10, 7, 6, 5] rfl) ?_
        refine HP.one (i := 88) rfl fun _ _ z1 z2 z3 z4 z5 => ?_
        refine HO.gdo rfl rfl rfl rfl ?_
        refine HO.v (V.eqlI rfl rfl) (ltn rfl) ?_
        refine HO.nil ?_
        refine HQ.nxt z1 z2 z3 z4 z5 (Sub.at [10, 7, 6, 5] rfl) ?_
        refine HP.one (i := 89) rfl fun _ _ z1 z2 z3 z4 z5 => ?_
        refine HO.v (V.pickT rfl rfl) (ltn rfl) ?_
        refine HO.nil ?_
        refine HQ.nxt z1 z2 z3 z4 z5 (Sub.at [10, 7, 6, 5] rfl) ?_
        refine HP.one (i := 90) rfl fun _ _ z1 z2 z3 z4 z5 => ?_
        refine HO.v (V.assign rfl) (ltn rfl) ?_
        refine HO.nil ?_
        refine HQ.nxt z1 z2 z3 z4 z5 (Sub.at [10, 7, 6, 5] rfl) ?_
        refine HP.done ?_
        refine HQ.keep (.cons (t := 0) rfl (.nil)) ?_
        refine HQ.next ?_
        refine H.ret ?_
        refine HQ.end_ rfl rfl rfl rfl (.inl rfl) _ (fun a w s => res1 Try.results6 s rfl) ?_
        refine ⟨[], _, (by exact Rems.nil), ?_⟩
        exact ⟨rfl, rfl⟩
      · skip
        intro _ _ z1 z2 z3 z4 z5
        refine HO.gdo rfl rfl rfl rfl ?_
        refine HO.buildRow (encI .i64) (kqq.outs) Try.underlying27 ze3 (.cons rfl (.nil)) (.cons rfl (.nil)) (Nat.le_of_ble_eq_true rfl) (Nat.le_of_ble_eq_true rfl) (ltn rfl) ?_
        intro b100
        refine HO.nil ?_
        refine HQ.nxt z1 z2 z3 z4 z5 (Sub.at [9, 6, 5, 4] rfl) ?_
        refine HP.one (i := 32) rfl fun _ _ z1 z2 z3 z4 z5 => ?_
        refine HO.gdo rfl rfl rfl rfl ?_
        refine HO.buildRow encIn (kqq.code) Try.underlying26 ze50 (.cons rfl (.nil)) (.cons rfl (.nil)) (Nat.le_of_ble_eq_true rfl) (Nat.le_of_ble_eq_true rfl) (ltn rfl) ?_
        intro b99
        refine HO.nil ?_
        refine HQ.nxt z1 z2 z3 z4 z5 (Sub.at [10, 7, 6, 5] rfl) ?_
        refine HP.one (i := 34) rfl fun _ _ z1 z2 z3 z4 z5 => ?_
        refine HO.gdo rfl rfl rfl rfl ?_
        refine HO.call ca11 (.cons rfl (.cons rfl (.cons rfl (.nil)))) (same14_w kqq _ _ _ _ _ _ _ _ (by decide) (by decide)) (by exact Rems.nil) (by (refine Reads.row (.tail _ (.tail _ (.tail _ (.tail _ (.tail _ (.tail _ (.tail _ (.tail _ (.head _))))))))) ?_); (refine Reads.row (.tail _ (.tail _ (.tail _ (.tail _ (.tail _ (.tail _ (.tail _ (.tail _ (.tail _ (.head _)))))))))) ?_); (refine Reads.row (.head _) ?_); (refine Reads.row (.tail _ (.head _)) ?_); exact Reads.nil) (ltn rfl) ?_
        rintro v101 L101 ⟨rfl, rfl⟩
        dsimp only [List.nil_append, List.cons_append]
        refine HO.nil ?_
        refine HQ.nxt z1 z2 z3 z4 z5 (Sub.at [10, 7, 6, 5] rfl) ?_
        refine HP.one (i := 35) rfl fun _ _ z1 z2 z3 z4 z5 => ?_
        refine HO.v (V.pickT rfl rfl) (ltn rfl) ?_
        refine HO.nil ?_
        refine HQ.nxt z1 z2 z3 z4 z5 (Sub.at [10, 7, 6, 5] rfl) ?_
        refine HP.one (i := 36) rfl fun _ _ z1 z2 z3 z4 z5 => ?_
        refine HO.v (V.move rfl) (ltn rfl) ?_
        refine HO.nil ?_
        refine HQ.nxt z1 z2 z3 z4 z5 (Sub.at [10, 7, 6, 5] rfl) ?_
        refine HP.setT (t := 103) rfl (by rfl) ?_
        refine HP.one (i := 37) rfl fun _ _ z1 z2 z3 z4 z5 => ?_
        refine HO.gdo rfl rfl rfl rfl ?_
        refine HO.v (V.move rfl) (ltn rfl) ?_
        refine HO.nil ?_
        refine HQ.nxt z1 z2 z3 z4 z5 (Sub.at [10, 7, 6, 5] rfl) ?_
        refine HP.one (i := 38) rfl fun _ _ z1 z2 z3 z4 z5 => ?_
        refine HO.gdo rfl rfl rfl rfl ?_
        refine HO.v (V.len Try.underlying27 rfl) (ltn rfl) ?_
        refine HO.nil ?_
        refine HQ.nxt z1 z2 z3 z4 z5 (Sub.at [10, 7, 6, 5] rfl) ?_
        refine HP.one (i := 39) rfl fun _ _ z1 z2 z3 z4 z5 => ?_
        refine HO.gdo rfl rfl rfl rfl ?_
        refine HO.v (V.eqlI rfl rfl) (ltn rfl) ?_
        refine HO.nil ?_
        refine HQ.nxt z1 z2 z3 z4 z5 (Sub.at [10, 7, 6, 5] rfl) ?_
        refine HP.one (i := 40) rfl fun _ _ z1 z2 z3 z4 z5 => ?_
        refine HO.v (V.pickT rfl rfl) (ltn rfl) ?_
        refine HO.nil ?_
        refine HQ.nxt z1 z2 z3 z4 z5 (Sub.at [10, 7, 6, 5] rfl) ?_
        refine HP.one (i := 41) rfl fun _ _ z1 z2 z3 z4 z5 => ?_
        refine HO.v (V.move rfl) (ltn rfl) ?_
        refine HO.nil ?_
        refine HQ.nxt z1 z2 z3 z4 z5 (Sub.at [10, 7, 6, 5] rfl) ?_
        refine HP.setT (t := 108) rfl (by rfl) ?_
        refine HP.one (i := 42) rfl fun _ _ z1 z2 z3 z4 z5 => ?_
        refine HO.gdo rfl rfl rfl rfl ?_
        refine HO.v (V.move rfl) (ltn rfl) ?_
        refine HO.nil ?_
        refine HQ.nxt z1 z2 z3 z4 z5 (Sub.at [10, 7, 6, 5] rfl) ?_
        refine HP.one (i := 43) rfl fun _ _ z1 z2 z3 z4 z5 => ?_
        refine HO.gdo rfl rfl rfl rfl ?_
        refine HO.v (V.indexAddr (N := (encI .i64)) (ys := _) Try.underlying27 sz3 rfl rfl (by first | omega | decide | simp) (by first | omega | decide | simp) (by exact Has.own (.there (.there (.there (.there (.there (.there .here)))))))) (ltn rfl) ?_
        refine HO.nil ?_
        refine HQ.nxt z1 z2 z3 z4 z5 (Sub.at [10, 7, 6, 5] rfl) ?_
        refine HP.one (i := 44) rfl fun _ _ z1 z2 z3 z4 z5 => ?_
        refine HO.gdo rfl rfl rfl rfl ?_
        refine HO.v (V.loadE (N := (encI .i64)) sc3 rfl (by exact .mk (Has.own (.there (.there (.there (.there (.there (.there .here))))))) (rfl) rfl)) (ltn rfl) ?_
        refine HO.nil ?_
        refine HQ.nxt z1 z2 z3 z4 z5 (Sub.at [10, 7, 6, 5] rfl) ?_
        refine HP.one (i := 45) rfl fun _ _ z1 z2 z3 z4 z5 => ?_
        refine HO.gdo rfl rfl rfl rfl ?_
        refine HO.v (V.eqlI rfl rfl) (ltn rfl) ?_
        refine HO.nil ?_
        refine HQ.nxt z1 z2 z3 z4 z5 (Sub.at [10, 7, 6, 5] rfl) ?_
        refine HP.one (i := 46) rfl fun _ _ z1 z2 z3 z4 z5 => ?_
        refine HO.v (V.pickT rfl rfl) (ltn rfl) ?_
        refine HO.nil ?_
        refine HQ.nxt z1 z2 z3 z4 z5 (Sub.at [10, 7, 6, 5] rfl) ?_
        refine HP.one (i := 47) rfl fun _ _ z1 z2 z3 z4 z5 => ?_
        refine HO.v (V.move rfl) (ltn rfl) ?_
        refine HO.nil ?_
        refine HQ.nxt z1 z2 z3 z4 z5 (Sub.at [10, 7, 6, 5] rfl) ?_
        refine HP.setT (t := 114) rfl (by rfl) ?_
        refine HP.one (i := 48) rfl fun _ _ z1 z2 z3 z4 z5 => ?_
        refine HO.gdo rfl rfl rfl rfl ?_
        refine HO.v (V.move rfl) (ltn rfl) ?_
        refine HO.nil ?_
        refine HQ.nxt z1 z2 z3 z4 z5 (Sub.at [10, 7, 6, 5] rfl) ?_
        refine HP.one (i := 49) rfl fun _ _ z1 z2 z3 z4 z5 => ?_
        refine HO.gdo rfl rfl rfl rfl ?_
        refine HO.v (V.indexAddr (N := (encI .i64)) (ys := _) Try.underlying27 sz3 rfl rfl (by first | omega | decide | simp) (by first | omega | decide | simp) (by exact Has.own (.there (.there (.there (.there (.there (.there .here)))))))) (ltn rfl) ?_
        refine HO.nil ?_
        refine HQ.nxt z1 z2 z3 z4 z5 (Sub.at [10, 7, 6, 5] rfl) ?_
        refine HP.one (i := 50) rfl fun _ _ z1 z2 z3 z4 z5 => ?_
        refine HO.gdo rfl rfl rfl rfl ?_
        refine HO.v (V.loadE (N := (encI .i64)) sc3 rfl (by exact .mk (Has.own (.there (.there (.there (.there (.there (.there .here))))))) (rfl) rfl)) (ltn rfl) ?_
        refine HO.nil ?_
        refine HQ.nxt z1 z2 z3 z4 z5 (Sub.at [10, 7, 6, 5] rfl) ?_
        refine HP.one (i := 51) rfl fun _ _ z1 z2 z3 z4 z5 => ?_
        refine HO.gdo rfl rfl rfl rfl ?_
        refine HO.v (V.eqlI rfl rfl) (ltn rfl) ?_
        refine HO.nil ?_
        refine HQ.nxt z1 z2 z3 z4 z5 (Sub.at [10, 7, 6, 5] rfl) ?_
        refine HP.one (i := 52) rfl fun _ _ z1 z2 z3 z4 z5 => ?_
        refine HO.v (V.pickT rfl rfl) (ltn rfl) ?_
        refine HO.nil ?_
        refine HQ.nxt z1 z2 z3 z4 z5 (Sub.at [10, 7, 6, 5] rfl) ?_
        refine HP.one (i := 53) rfl fun _ _ z1 z2 z3 z4 z5 => ?_
        refine HO.v (V.move rfl) (ltn rfl) ?_
        refine HO.nil ?_
        refine HQ.nxt z1 z2 z3 z4 z5 (Sub.at [10, 7, 6, 5] rfl) ?_
        refine HP.setT (t := 120) rfl (by rfl) ?_
        refine HP.one (i := 54) rfl fun _ _ z1 z2 z3 z4 z5 => ?_
        refine HO.gdo rfl rfl rfl rfl ?_
        refine HO.v (V.move rfl) (ltn rfl) ?_
        refine HO.nil ?_
        refine HQ.nxt z1 z2 z3 z4 z5 (Sub.at [10, 7, 6, 5] rfl) ?_
        refine HP.one (i := 55) rfl fun _ _ z1 z2 z3 z4 z5 => ?_
        refine HO.gdo rfl rfl rfl rfl ?_
        refine HO.v (V.indexAddr (N := (encI .i64)) (ys := _) Try.underlying27 sz3 rfl rfl (by first | omega | decide | simp) (by first | omega | decide | simp) (by exact Has.own (.there (.there (.there (.there (.there (.there .here)))))))) (ltn rfl) ?_
        refine HO.nil ?_
        refine HQ.nxt z1 z2 z3 z4 z5 (Sub.at [10, 7, 6, 5] rfl) ?_
        refine HP.one (i := 56) rfl fun _ _ z1 z2 z3 z4 z5 => ?_
        refine HO.gdo rfl rfl rfl rfl ?_
        refine HO.v (V.loadE (N := (encI .i64)) sc3 rfl (by exact .mk (Has.own (.there (.there (.there (.there (.there (.there .here))))))) (rfl) rfl)) (ltn rfl) ?_
        refine HO.nil ?_
        refine HQ.nxt z1 z2 z3 z4 z5 (Sub.at [10, 7, 6, 5] rfl) ?_
        refine HP.one (i := 57) rfl fun _ _ z1 z2 z3 z4 z5 => ?_
        refine HO.gdo rfl rfl rfl rfl ?_
        refine HO.v (V.eqlI rfl rfl) (ltn rfl) ?_
        refine HO.nil ?_
        refine HQ.nxt z1 z2 z3 z4 z5 (Sub.at [10, 7, 6, 5] rfl) ?_
        refine HP.one (i := 58) rfl fun _ _ z1 z2 z3 z4 z5 => ?_
        refine HO.v (V.pickT rfl rfl) (ltn rfl) ?_
        refine HO.nil ?_
        refine HQ.nxt z1 z2 z3 z4 z5 (Sub.at [10, 7, 6, 5] rfl) ?_
        refine HP.one (i := 59) rfl fun _ _ z1 z2 z3 z4 z5 => ?_
        refine HO.v (V.move rfl) (ltn rfl) ?_
        refine HO.nil ?_
        refine HQ.nxt z1 z2 z3 z4 z5 (Sub.at [10, 7, 6, 5] rfl) ?_
        refine HP.setT (t := 126) rfl (by rfl) ?_
        refine HP.one (i := 60) rfl fun _ _ z1 z2 z3 z4 z5 => ?_
        refine HO.gdo rfl rfl rfl rfl ?_
        refine HO.v (V.move rfl) (ltn rfl) ?_
        refine HO.nil ?_
        refine HQ.nxt z1 z2 z3 z4 z5 (Sub.at [10, 7, 6, 5] rfl) ?_
        refine HP.one (i := 61) rfl fun _ _ z1 z2 z3 z4 z5 => ?_
        refine HO.gdo rfl rfl rfl rfl ?_
        refine HO.v (V.len Try.underlying27 rfl) (ltn rfl) ?_
        refine HO.nil ?_
        refine HQ.nxt z1 z2 z3 z4 z5 (Sub.at [10, 7, 6, 5] rfl) ?_
        refine HP.one (i := 62) rfl fun _ _ z1 z2 z3 z4 z5 => ?_
        refine HO.gdo rfl rfl rfl rfl ?_
        refine HO.v (V.eqlI rfl rfl) (ltn rfl) ?_
        refine HO.nil ?_
        refine HQ.nxt z1 z2 z3 z4 z5 (Sub.at [10, 7, 6, 5] rfl) ?_
        refine HP.one (i := 63) rfl fun _ _ z1 z2 z3 z4 z5 => ?_
        refine HO.v (V.pickT rfl rfl) (ltn rfl) ?_
        refine HO.nil ?_
        refine HQ.nxt z1 z2 z3 z4 z5 (Sub.at [10, 7, 6, 5] rfl) ?_
        refine HP.one (i := 64) rfl fun _ _ z1 z2 z3 z4 z5 => ?_
        refine HO.v (V.move rfl) (ltn rfl) ?_
        refine HO.nil ?_
        refine HQ.nxt z1 z2 z3 z4 z5 (Sub.at [10, 7, 6, 5] rfl) ?_
        refine HP.setT (t := 131) rfl (by rfl) ?_
        refine HP.one (i := 65) rfl fun _ _ z1 z2 z3 z4 z5 => ?_
        refine HO.gdo rfl rfl rfl rfl ?_
        refine HO.v (V.move rfl) (ltn rfl) ?_
        refine HO.nil ?_
        refine HQ.nxt z1 z2 z3 z4 z5 (Sub.at [10, 7, 6, 5] rfl) ?_
        refine HP.one (i := 66) rfl fun _ _ z1 z2 z3 z4 z5 => ?_
        refine HO.gdo rfl rfl rfl rfl ?_
        refine HO.v (V.indexAddr (N := (encI .i64)) (ys := _) Try.underlying27 sz3 rfl rfl (by first | omega | decide | simp) (by first | omega | decide | simp) (by exact Has.own (.there (.there (.there (.there (.there .here))))))) (ltn rfl) ?_
        refine HO.nil ?_
        refine HQ.nxt z1 z2 z3 z4 z5 (Sub.at [10, 7, 6, 5] rfl) ?_
        refine HP.one (i := 67) rfl fun _ _ z1 z2 z3 z4 z5 => ?_
        refine HO.gdo rfl rfl rfl rfl ?_
        refine HO.v (V.loadE (N := (encI .i64)) sc3 rfl (by exact .mk (Has.own (.there (.there (.there (.there (.there .here)))))) (rfl) rfl)) (ltn rfl) ?_
        refine HO.nil ?_
        refine HQ.nxt z1 z2 z3 z4 z5 (Sub.at [10, 7, 6, 5] rfl) ?_
        refine HP.one (i := 68) rfl fun _ _ z1 z2 z3 z4 z5 => ?_
        refine HO.gdo rfl rfl rfl rfl ?_
        refine HO.v (V.eqlI rfl rfl) (ltn rfl) ?_
        refine HO.nil ?_
        refine HQ.nxt z1 z2 z3 z4 z5 (Sub.at [10, 7, 6, 5] rfl) ?_
        refine HP.one (i := 69) rfl fun _ _ z1 z2 z3 z4 z5 => ?_
        refine HO.v (V.pickT rfl rfl) (ltn rfl) ?_
        refine HO.nil ?_
        refine HQ.nxt z1 z2 z3 z4 z5 (Sub.at [10, 7, 6, 5] rfl) ?_
        refine HP.one (i := 70) rfl fun _ _ z1 z2 z3 z4 z5 => ?_
        refine HO.v (V.move rfl) (ltn rfl) ?_
        refine HO.nil ?_
        refine HQ.nxt z1 z2 z3 z4 z5 (Sub.at [10, 7, 6, 5] rfl) ?_
        refine HP.setT (t := 137) rfl (by rfl) ?_
        refine HP.one (i := 71) rfl fun _ _ z1 z2 z3 z4 z5 => ?_
        refine HO.gdo rfl rfl rfl rfl ?_
        refine HO.v (V.move rfl) (ltn rfl) ?_
        refine HO.nil ?_
        refine HQ.nxt z1 z2 z3 z4 z5 (Sub.at [10, 7, 6, 5] rfl) ?_
        refine HP.one (i := 72) rfl fun _ _ z1 z2 z3 z4 z5 => ?_
        refine HO.gdo rfl rfl rfl rfl ?_
        refine HO.v (V.indexAddr (N := (encI .i64)) (ys := _) Try.underlying27 sz3 rfl rfl (by first | omega | decide | simp) (by first | omega | decide | simp) (by exact Has.own (.there (.there (.there (.there (.there .here))))))) (ltn rfl) ?_
        refine HO.nil ?_
        refine HQ.nxt z1 z2 z3 z4 z5 (Sub.at [10, 7, 6, 5] rfl) ?_
        refine HP.one (i := 73) rfl fun _ _ z1 z2 z3 z4 z5 => ?_
        refine HO.gdo rfl rfl rfl rfl ?_
        refine HO.v (V.loadE (N := (encI .i64)) sc3 rfl (by exact .mk (Has.own (.there (.there (.there (.there (.there .here)))))) (rfl) rfl)) (ltn rfl) ?_
        refine HO.nil ?_
        refine HQ.nxt z1 z2 z3 z4 z5 (Sub.at [10, 7, 6, 5] rfl) ?_
        refine HP.one (i := 74) rfl fun _ _ z1 z2 z3 z4 z5 => ?_
        refine HO.gdo rfl rfl rfl rfl ?_
        refine HO.v (V.eqlI rfl rfl) (ltn rfl) ?_
        refine HO.nil ?_
        refine HQ.nxt z1 z2 z3 z4 z5 (Sub.at [10, 7, 6, 5] rfl) ?_
        refine HP.one (i := 75) rfl fun _ _ z1 z2 z3 z4 z5 => ?_
        refine HO.v (V.pickT rfl rfl) (ltn rfl) ?_
        refine HO.nil ?_
        refine HQ.nxt z1 z2 z3 z4 z5 (Sub.at [10, 7, 6, 5] rfl) ?_
        refine HP.one (i := 76) rfl fun _ _ z1 z2 z3 z4 z5 => ?_
        refine HO.v (V.move rfl) (ltn rfl) ?_
        refine HO.nil ?_
        refine HQ.nxt z1 z2 z3 z4 z5 (Sub.at [10, 7, 6, 5] rfl) ?_
        refine HP.setT (t := 143) rfl (by rfl) ?_
        refine HP.one (i := 77) rfl fun _ _ z1 z2 z3 z4 z5 => ?_
        refine HO.gdo rfl rfl rfl rfl ?_
        refine HO.v (V.move rfl) (ltn rfl) ?_
        refine HO.nil ?_
        refine HQ.nxt z1 z2 z3 z4 z5 (Sub.at [10, 7, 6, 5] rfl) ?_
        refine HP.one (i := 78) rfl fun _ _ z1 z2 z3 z4 z5 => ?_
        refine HO.v (V.pickT rfl rfl) (ltn rfl) ?_
        refine HO.nil ?_
        refine HQ.nxt z1 z2 z3 z4 z5 (Sub.at [10, 7, 6, 5] rfl) ?_
        refine HP.one (i := 79) rfl fun _ _ z1 z2 z3 z4 z5 => ?_
        refine HO.v (V.move rfl) (ltn rfl) ?_
        refine HO.nil ?_
        refine HQ.nxt z1 z2 z3 z4 z5 (Sub.at [10, 7, 6, 5] rfl) ?_
        refine HP.setT (t := 146) rfl (by rfl) ?_
        refine HP.one (i := 80) rfl fun _ _ z1 z2 z3 z4 z5 => ?_
        refine HO.gdo rfl rfl rfl rfl ?_
        refine HO.v (V.move rfl) (ltn rfl) ?_
        refine HO.nil ?_
        refine HQ.nxt z1 z2 z3 z4 z5 (Sub.at [10, 7, 6, 5] rfl) ?_
        refine HP.one (i := 81) rfl fun _ _ z1 z2 z3 z4 z5 => ?_
        refine HO.gdo rfl rfl rfl rfl ?_
        refine HO.v (V.eqlI rfl rfl) (ltn rfl) ?_
        refine HO.nil ?_
        refine HQ.nxt z1 z2 z3 z4 z5 (Sub.at [10, 7, 6, 5] rfl) ?_
        refine HP.one (i := 82) rfl fun _ _ z1 z2 z3 z4 z5 => ?_
        refine HO.v (V.pickT rfl rfl) (ltn rfl) ?_
        refine HO.nil ?_
        refine HQ.nxt z1 z2 z3 z4 z5 (Sub.at [10, 7, 6, 5] rfl) ?_
        refine HP.one (i := 83) rfl fun _ _ z1 z2 z3 z4 z5 => ?_
        refine HO.v (V.move rfl) (ltn rfl) ?_
        refine HO.nil ?_
        refine HQ.nxt z1 z2 z3 z4 z5 (Sub.at [10, 7, 6, 5] rfl) ?_
        refine HP.setT (t := 150) rfl (by rfl) ?_
        refine HP.one (i := 84) rfl fun _ _ z1 z2 z3 z4 z5 => ?_
        refine HO.gdo rfl rfl rfl rfl ?_
        refine HO.v (V.move rfl) (ltn rfl) ?_
        refine HO.nil ?_
        refine HQ.nxt z1 z2 z3 z4 z5 (Sub.at [10, 7, 6, 5] rfl) ?_
        refine HP.one (i := 85) rfl fun _ _ z1 z2 z3 z4 z5 => ?_
        refine HO.v (V.pickT rfl rfl) (ltn rfl) ?_
        refine HO.nil ?_
        refine HQ.nxt z1 z2 z3 z4 z5 (Sub.at [10, 7, 6, 5] rfl) ?_
        refine HP.one (i := 86) rfl fun _ _ z1 z2 z3 z4 z5 => ?_
        refine HO.v (V.move rfl) (ltn rfl) ?_
        refine HO.nil ?_
        refine HQ.nxt z1 z2 z3 z4 z5 (Sub.at [10, 7, 6, 5] rfl) ?_
        refine HP.setT (t := 153) rfl (by rfl) ?_
        refine HP.one (i := 87) rfl fun _ _ z1 z2 z3 z4 z5 => ?_
        refine HO.gdo rfl rfl rfl rfl ?_
        refine HO.v (V.move rfl) (ltn rfl) ?_
        refine HO.nil ?_
        refine HQ.nxt z1 z2 z3 z4 z5 (Sub.at [10, 7, 6, 5] rfl) ?_
        refine HP.one (i := 88) rfl fun _ _ z1 z2 z3 z4 z5 => ?_
        refine HO.gdo rfl rfl rfl rfl ?_
        refine HO.v (V.eqlI rfl rfl) (ltn rfl) ?_
        refine HO.nil ?_
        refine HQ.nxt z1 z2 z3 z4 z5 (Sub.at [10, 7, 6, 5] rfl) ?_
        refine HP.one (i := 89) rfl fun _ _ z1 z2 z3 z4 z5 => ?_
        refine HO.v (V.pickT rfl rfl) (ltn rfl) ?_
        refine HO.nil ?_
        refine HQ.nxt z1 z2 z3 z4 z5 (Sub.at [10, 7, 6, 5] rfl) ?_
        refine HP.one (i := 90) rfl fun _ _ z1 z2 z3 z4 z5 => ?_
        refine HO.v (V.assign rfl) (ltn rfl) ?_
        refine HO.nil ?_
        refine HQ.nxt z1 z2 z3 z4 z5 (Sub.at [10, 7, 6, 5] rfl) ?_
        refine HP.done ?_
        refine HQ.keep (.cons (t := 0) rfl (.nil)) ?_
        refine HQ.next ?_
        refine H.ret ?_
        refine HQ.end_ rfl rfl rfl rfl (.inl rfl) _ (fun a w s => res1 Try.results6 s rfl) ?_
        refine ⟨[], _, (by exact Rems.nil), ?_⟩
        exact ⟨rfl, rfl⟩
    · skip
      intro _ _ z1 z2 z3 z4 z5
      refine HO.gdo rfl rfl rfl rfl ?_
      refine HO.buildRow (encI .i64) (kqq.outs) Try.underlying27 ze3 (.cons rfl (.nil)) (.cons rfl (.nil)) (Nat.le_of_ble_eq_true rfl) (Nat.le_of_ble_eq_true rfl) (ltn rfl) ?_
      intro b100
      refine HO.nil ?_
      refine HQ.nxt z1 z2 z3 z4 z5 (Sub.at [9, 6, 5, 4] rfl) ?_
      refine HP.one (i := 31) rfl fun _ _ z1 z2 z3 z4 z5 => ?_
      refine HO.gdo rfl rfl rfl rfl ?_
      refine HO.callV ca13 rfl (.cons rfl (.cons rfl (.cons rfl (.nil)))) (add14_w _ _ _) (by exact Rems.nil) (by exact Reads.nil) (fun _ e => by cases e; exact (ltn rfl)) ?_
      rintro v98 L98 ⟨rfl, rfl⟩
      dsimp only [List.nil_append, List.cons_append]
      refine HO.nil ?_
      refine HQ.nxt z1 z2 z3 z4 z5 (Sub.at [9, 6, 5, 4] rfl) ?_
      refine HP.one (i := 32) rfl fun _ _ z1 z2 z3 z4 z5 => ?_
      refine HO.gdo rfl rfl rfl rfl ?_
      refine HO.buildRow encIn (kqq.code) Try.underlying26 ze50 (.cons rfl (.nil)) (.cons rfl (.nil)) (Nat.le_of_ble_eq_true rfl) (Nat.le_of_ble_eq_true rfl) (ltn rfl) ?_
      intro b99
      refine HO.nil ?_
      refine HQ.nxt z1 z2 z3 z4 z5 (Sub.at [10, 7, 6, 5] rfl) ?_
      refine HP.one (i := 34) rfl fun _ _ z1 z2 z3 z4 z5 => ?_
      refine HO.gdo rfl rfl rfl rfl ?_
      refine HO.call ca11 (.cons rfl (.cons rfl (.cons rfl (.nil)))) (same14_w kqq _ _ _ _ _ _ _ _ (by decide) (by decide)) (by exact Rems.nil) (by (refine Reads.row (.tail _ (.tail _ (.tail _ (.tail _ (.tail _ (.tail _ (.tail _ (.tail _ (.head _))))))))) ?_); (refine Reads.row (.tail _ (.tail _ (.tail _ (.tail _ (.tail _ (.tail _ (.tail _ (.tail _ (.tail _ (.head _)))))))))) ?_); (refine Reads.row (.head _) ?_); (refine Reads.row (.tail _ (.head _)) ?_); exact Reads.nil) (ltn rfl) ?_
      rintro v101 L101 ⟨rfl, rfl⟩
      dsimp only [List.nil_append, List.cons_append]
      refine HO.nil ?_
      refine HQ.nxt z1 z2 z3 z4 z5 (Sub.at [10, 7, 6, 5] rfl) ?_
      refine HP.one (i := 35) rfl fun _ _ z1 z2 z3 z4 z5 => ?_
      refine HO.v (V.pickT rfl rfl) (ltn rfl) ?_
      refine HO.nil ?_
      refine HQ.nxt z1 z2 z3 z4 z5 (Sub.at [10, 7, 6, 5] rfl) ?_
      refine HP.one (i := 36) rfl fun _ _ z1 z2 z3 z4 z5 => ?_
      refine HO.v (V.move rfl) (ltn rfl) ?_
      refine HO.nil ?_
      refine HQ.nxt z1 z2 z3 z4 z5 (Sub.at [10, 7, 6, 5] rfl) ?_
      refine HP.setT (t := 103) rfl (by rfl) ?_
      refine HP.one (i := 37) rfl fun _ _ z1 z2 z3 z4 z5 => ?_
      refine HO.gdo rfl rfl rfl rfl ?_
      refine HO.v (V.move rfl) (ltn rfl) ?_
      refine HO.nil ?_
      refine HQ.nxt z1 z2 z3 z4 z5 (Sub.at [10, 7, 6, 5] rfl) ?_
      refine HP.one (i := 38) rfl fun _ _ z1 z2 z3 z4 z5 => ?_
      refine HO.gdo rfl rfl rfl rfl ?_
      refine HO.v (V.len Try.underlying27 rfl) (ltn rfl) ?_
      refine HO.nil ?_
      refine HQ.nxt z1 z2 z3 z4 z5 (Sub.at [10, 7, 6, 5] rfl) ?_
      refine HP.one (i := 39) rfl fun _ _ z1 z2 z3 z4 z5 => ?_
      refine HO.gdo rfl rfl rfl rfl ?_
      refine HO.v (V.eqlI rfl rfl) (ltn rfl) ?_
      refine HO.nil ?_
      refine HQ.nxt z1 z2 z3 z4 z5 (Sub.at [10, 7, 6, 5] rfl) ?_
      refine HP.one (i := 40) rfl fun _ _ z1 z2 z3 z4 z5 => ?_
      refine HO.v (V.pickT rfl rfl) (ltn rfl) ?_
      refine HO.nil ?_
      refine HQ.nxt z1 z2 z3 z4 z5 (Sub.at [10, 7, 6, 5] rfl) ?_
      refine HP.one (i := 41) rfl fun _ _ z1 z2 z3 z4 z5 => ?_
      refine HO.v (V.move rfl) (ltn rfl) ?_
      refine HO.nil ?_
      refine HQ.nxt z1 z2 z3 z4 z5 (Sub.at [10, 7, 6, 5] rfl) ?_
      refine HP.setT (t := 108) rfl (by rfl) ?_
      refine HP.one (i := 42) rfl fun _ _ z1 z2 z3 z4 z5 => ?_
      refine HO.gdo rfl rfl rfl rfl ?_
      refine HO.v (V.move rfl) (ltn rfl) ?_
      refine HO.nil ?_
      refine HQ.nxt z1 z2 z3 z4 z5 (Sub.at [10, 7, 6, 5] rfl) ?_
      refine HP.one (i := 43) rfl fun _ _ z1 z2 z3 z4 z5 => ?_
      refine HO.gdo rfl rfl rfl rfl ?_
      refine HO.v (V.indexAddr (N := (encI .i64)) (ys := _) Try.underlying27 sz3 rfl rfl (by first | omega | decide | simp) (by first | omega | decide | simp) (by exact Has.own (.there (.there (.there (.there (.there (.there .here)))))))) (ltn rfl) ?_
      refine HO.nil ?_
      refine HQ.nxt z1 z2 z3 z4 z5 (Sub.at [10, 7, 6, 5] rfl) ?_
      refine HP.one (i := 44) rfl fun _ _ z1 z2 z3 z4 z5 => ?_
      refine HO.gdo rfl rfl rfl rfl ?_
      refine HO.v (V.loadE (N := (encI .i64)) sc3 rfl (by exact .mk (Has.own (.there (.there (.there (.there (.there (.there .here))))))) (rfl) rfl)) (ltn rfl) ?_
      refine HO.nil ?_
      refine HQ.nxt z1 z2 z3 z4 z5 (Sub.at [10, 7, 6, 5] rfl) ?_
      refine HP.one (i := 45) rfl fun _ _ z1 z2 z3 z4 z5 => ?_
      refine HO.gdo rfl rfl rfl rfl ?_
      refine HO.v (V.eqlI rfl rfl) (ltn rfl) ?_
      refine HO.nil ?_
      refine HQ.nxt z1 z2 z3 z4 z5 (Sub.at [10, 7, 6, 5] rfl) ?_
      refine HP.one (i := 46) rfl fun _ _ z1 z2 z3 z4 z5 => ?_
      refine HO.v (V.pickT rfl rfl) (ltn rfl) ?_
      refine HO.nil ?_
      refine HQ.nxt z1 z2 z3 z4 z5 (Sub.at [10, 7, 6, 5] rfl) ?_
      refine HP.one (i := 47) rfl fun _ _ z1 z2 z3 z4 z5 => ?_
      refine HO.v (V.move rfl) (ltn rfl) ?_
      refine HO.nil ?_
      refine HQ.nxt z1 z2 z3 z4 z5 (Sub.at [10, 7, 6, 5] rfl) ?_
      refine HP.setT (t := 114) rfl (by rfl) ?_
      refine HP.one (i := 48) rfl fun _ _ z1 z2 z3 z4 z5 => ?_
      refine HO.gdo rfl rfl rfl rfl ?_
      refine HO.v (V.move rfl) (ltn rfl) ?_
      refine HO.nil ?_
      refine HQ.nxt z1 z2 z3 z4 z5 (Sub.at [10, 7, 6, 5] rfl) ?_
      refine HP.one (i := 49) rfl fun _ _ z1 z2 z3 z4 z5 => ?_
      refine HO.gdo rfl rfl rfl rfl ?_
      refine HO.v (V.indexAddr (N := (encI .i64)) (ys := _) Try.underlying27 sz3 rfl rfl (by first | omega | decide | simp) (by first | omega | decide | simp) (by exact Has.own (.there (.there (.there (.there (.there (.there .here)))))))) (ltn rfl) ?_
      refine HO.nil ?_
      refine HQ.nxt z1 z2 z3 z4 z5 (Sub.at [10, 7, 6, 5] rfl) ?_
      refine HP.one (i := 50) rfl fun _ _ z1 z2 z3 z4 z5 => ?_
      refine HO.gdo rfl rfl rfl rfl ?_
      refine HO.v (V.loadE (N := (encI .i64)) sc3 rfl (by exact .mk (Has.own (.there (.there (.there (.there (.there (.there .here))))))) (rfl) rfl)) (ltn rfl) ?_
      refine HO.nil ?_
      refine HQ.nxt z1 z2 z3 z4 z5 (Sub.at [10, 7, 6, 5] rfl) ?_
      refine HP.one (i := 51) rfl fun _ _ z1 z2 z3 z4 z5 => ?_
      refine HO.gdo rfl rfl rfl rfl ?_
      refine HO.v (V.eqlI rfl rfl) (ltn rfl) ?_
      refine HO.nil ?_
      refine HQ.nxt z1 z2 z3 z4 z5 (Sub.at [10, 7, 6, 5] rfl) ?_
      refine HP.one (i := 52) rfl fun _ _ z1 z2 z3 z4 z5 => ?_
      refine HO.v (V.pickT rfl rfl) (ltn rfl) ?_
      refine HO.nil ?_
      refine HQ.nxt z1 z2 z3 z4 z5 (Sub.at [10, 7, 6, 5] rfl) ?_
      refine HP.one (i := 53) rfl fun _ _ z1 z2 z3 z4 z5 => ?_
      refine HO.v (V.move rfl) (ltn rfl) ?_
      refine HO.nil ?_
      refine HQ.nxt z1 z2 z3 z4 z5 (Sub.at [10, 7, 6, 5] rfl) ?_
      refine HP.setT (t := 120) rfl (by rfl) ?_
      refine HP.one (i := 54) rfl fun _ _ z1 z2 z3 z4 z5 => ?_
      refine HO.gdo rfl rfl rfl rfl ?_
      refine HO.v (V.move rfl) (ltn rfl) ?_
      refine HO.nil ?_
      refine HQ.nxt z1 z2 z3 z4 z5 (Sub.at [10, 7, 6, 5] rfl) ?_
      refine HP.one (i := 55) rfl fun _ _ z1 z2 z3 z4 z5 => ?_
      refine HO.gdo rfl rfl rfl rfl ?_
      refine HO.v (V.indexAddr (N := (encI .i64)) (ys := _) Try.underlying27 sz3 rfl rfl (by first | omega | decide | simp) (by first | omega | decide | simp) (by exact Has.own (.there (.there (.there (.there (.there (.there .here)))))))) (ltn rfl) ?_
      refine HO.nil ?_
      refine HQ.nxt z1 z2 z3 z4 z5 (Sub.at [10, 7, 6, 5] rfl) ?_
      refine HP.one (i := 56) rfl fun _ _ z1 z2 z3 z4 z5 => ?_
      refine HO.gdo rfl rfl rfl rfl ?_
      refine HO.v (V.loadE (N := (encI .i64)) sc3 rfl (by exact .mk (Has.own (.there (.there (.there (.there (.there (.there .here))))))) (rfl) rfl)) (ltn rfl) ?_
      refine HO.nil ?_
      refine HQ.nxt z1 z2 z3 z4 z5 (Sub.at [10, 7, 6, 5] rfl) ?_
      refine HP.one (i := 57) rfl fun _ _ z1 z2 z3 z4 z5 => ?_
      refine HO.gdo rfl rfl rfl rfl ?_
      refine HO.v (V.eqlI rfl rfl) (ltn rfl) ?_
      refine HO.nil ?_
      refine HQ.nxt z1 z2 z3 z4 z5 (Sub.at [10, 7, 6, 5] rfl) ?_
      refine HP.one (i := 58) rfl fun _ _ z1 z2 z3 z4 z5 => ?_
      refine HO.v (V.pickT rfl rfl) (ltn rfl) ?_
      refine HO.nil ?_
      refine HQ.nxt z1 z2 z3 z4 z5 (Sub.at [10, 7, 6, 5] rfl) ?_
      refine HP.one (i := 59) rfl fun _ _ z1 z2 z3 z4 z5 => ?_
      refine HO.v (V.move rfl) (ltn rfl) ?_
      refine HO.nil ?_
      refine HQ.nxt z1 z2 z3 z4 z5 (Sub.at [10, 7, 6, 5] rfl) ?_
      refine HP.setT (t := 126) rfl (by rfl) ?_
      refine HP.one (i := 60) rfl fun _ _ z1 z2 z3 z4 z5 => ?_
      refine HO.gdo rfl rfl rfl rfl ?_
      refine HO.v (V.move rfl) (ltn rfl) ?_
      refine HO.nil ?_
      refine HQ.nxt z1 z2 z3 z4 z5 (Sub.at [10, 7, 6, 5] rfl) ?_
      refine HP.one (i := 61) rfl fun _ _ z1 z2 z3 z4 z5 => ?_
      refine HO.gdo rfl rfl rfl rfl ?_
      refine HO.v (V.len Try.underlying27 rfl) (ltn rfl) ?_
      refine HO.nil ?_
      refine HQ.nxt z1 z2 z3 z4 z5 (Sub.at [10, 7, 6, 5] rfl) ?_
      refine HP.one (i := 62) rfl fun _ _ z1 z2 z3 z4 z5 => ?_
      refine HO.gdo rfl rfl rfl rfl ?_
      refine HO.v (V.eqlI rfl rfl) (ltn rfl) ?_
      refine HO.nil ?_
      refine HQ.nxt z1 z2 z3 z4 z5 (Sub.at [10, 7, 6, 5] rfl) ?_
      refine HP.one (i := 63) rfl fun _ _ z1 z2 z3 z4 z5 => ?_
      refine HO.v (V.pickT rfl rfl) (ltn rfl) ?_
      refine HO.nil ?_
      refine HQ.nxt z1 z2 z3 z4 z5 (Sub.at [10, 7, 6, 5] rfl) ?_
      refine HP.one (i := 64) rfl fun _ _ z1 z2 z3 z4 z5 => ?_
      refine HO.v (V.move rfl) (ltn rfl) ?_
      refine HO.nil ?_
      refine HQ.nxt z1 z2 z3 z4 z5 (Sub.at [10, 7, 6, 5] rfl) ?_
      refine HP.setT (t := 131) rfl (by rfl) ?_
      refine HP.one (i := 65) rfl fun _ _ z1 z2 z3 z4 z5 => ?_
      refine HO.gdo rfl rfl rfl rfl ?_
      refine HO.v (V.move rfl) (ltn rfl) ?_
      refine HO.nil ?_
      refine HQ.nxt z1 z2 z3 z4 z5 (Sub.at [10, 7, 6, 5] rfl) ?_
      refine HP.one (i := 66) rfl fun _ _ z1 z2 z3 z4 z5 => ?_
      refine HO.gdo rfl rfl rfl rfl ?_
      refine HO.v (V.indexAddr (N := (encI .i64)) (ys := _) Try.underlying27 sz3 rfl rfl (by first | omega | decide | simp) (by first | omega | decide | simp) (by exact Has.own (.there (.there (.there (.there (.there .here))))))) (ltn rfl) ?_
      refine HO.nil ?_
      refine HQ.nxt z1 z2 z3 z4 z5 (Sub.at [10, 7, 6, 5] rfl) ?_
      refine HP.one (i := 67) rfl fun _ _ z1 z2 z3 z4 z5 => ?_
      refine HO.gdo rfl rfl rfl rfl ?_
      refine HO.v (V.loadE (N := (encI .i64)) sc3 rfl (by exact .mk (Has.own (.there (.there (.there (.there (.there .here)))))) (rfl) rfl)) (ltn rfl) ?_
      refine HO.nil ?_
      refine HQ.nxt z1 z2 z3 z4 z5 (Sub.at [10, 7, 6, 5] rfl) ?_
      refine HP.one (i := 68) rfl fun _ _ z1 z2 z3 z4 z5 => ?_
      refine HO.gdo rfl rfl rfl rfl ?_
      refine HO.v (V.eqlI rfl rfl) (ltn rfl) ?_
      refine HO.nil ?_
      refine HQ.nxt z1 z2 z3 z4 z5 (Sub.at [10, 7, 6, 5] rfl) ?_
      refine HP.one (i := 69) rfl fun _ _ z1 z2 z3 z4 z5 => ?_
      refine HO.v (V.pickT rfl rfl) (ltn rfl) ?_
      refine HO.nil ?_
      refine HQ.nxt z1 z2 z3 z4 z5 (Sub.at [10, 7, 6, 5] rfl) ?_
      refine HP.one (i := 70) rfl fun _ _ z1 z2 z3 z4 z5 => ?_
      refine HO.v (V.move rfl) (ltn rfl) ?_
      refine HO.nil ?_
      refine HQ.nxt z1 z2 z3 z4 z5 (Sub.at [10, 7, 6, 5] rfl) ?_
      refine HP.setT (t := 137) rfl (by rfl) ?_
      refine HP.one (i := 71) rfl fun _ _ z1 z2 z3 z4 z5 => ?_
      refine HO.gdo rfl rfl rfl rfl ?_
      refine HO.v (V.move rfl) (ltn rfl) ?_
      refine HO.nil ?_
      refine HQ.nxt z1 z2 z3 z4 z5 (Sub.at [10, 7, 6, 5] rfl) ?_
      refine HP.one (i := 72) rfl fun _ _ z1 z2 z3 z4 z5 => ?_
      refine HO.gdo rfl rfl rfl rfl ?_
      refine HO.v (V.indexAddr (N := (encI .i64)) (ys := _) Try.underlying27 sz3 rfl rfl (by first | omega | decide | simp) (by first | omega | decide | simp) (by exact Has.own (.there (.there (.there (.there (.there .here))))))) (ltn rfl) ?_
      refine HO.nil ?_
      refine HQ.nxt z1 z2 z3 z4 z5 (Sub.at [10, 7, 6, 5] rfl) ?_
      refine HP.one (i := 73) rfl fun _ _ z1 z2 z3 z4 z5 => ?_
      refine HO.gdo rfl rfl rfl rfl ?_
      refine HO.v (V.loadE (N := (encI .i64)) sc3 rfl (by exact .mk (Has.own (.there (.there (.there (.there (.there .here)))))) (rfl) rfl)) (ltn rfl) ?_
      refine HO.nil ?_
      refine HQ.nxt z1 z2 z3 z4 z5 (Sub.at [10, 7, 6, 5] rfl) ?_
      refine HP.one (i := 74) rfl fun _ _ z1 z2 z3 z4 z5 => ?_
      refine HO.gdo rfl rfl rfl rfl ?_
      refine HO.v (V.eqlI rfl rfl) (ltn rfl) ?_
      refine HO.nil ?_
      refine HQ.nxt z1 z2 z3 z4 z5 (Sub.at [10, 7, 6, 5] rfl) ?_
      refine HP.one (i := 75) rfl fun _ _ z1 z2 z3 z4 z5 => ?_
      refine HO.v (V.pickT rfl rfl) (ltn rfl) ?_
      refine HO.nil ?_
      refine HQ.nxt z1 z2 z3 z4 z5 (Sub.at [10, 7, 6, 5] rfl) ?_
      refine HP.one (i := 76) rfl fun _ _ z1 z2 z3 z4 z5 => ?_
      refine HO.v (V.move rfl) (ltn rfl) ?_
      refine HO.nil ?_
      refine HQ.nxt z1 z2 z3 z4 z5 (Sub.at [10, 7, 6, 5] rfl) ?_
      refine HP.setT (t := 143) rfl (by rfl) ?_
      refine HP.one (i := 77) rfl fun _ _ z1 z2 z3 z4 z5 => ?_
      refine HO.gdo rfl rfl rfl rfl ?_
      refine HO.v (V.move rfl) (ltn rfl) ?_
      refine HO.nil ?_
      refine HQ.nxt z1 z2 z3 z4 z5 (Sub.at [10, 7, 6, 5] rfl) ?_
      refine HP.one (i := 78) rfl fun _ _ z1 z2 z3 z4 z5 => ?_
      refine HO.v (V.pickT rfl rfl) (ltn rfl) ?_
      refine HO.nil ?_
      refine HQ.nxt z1 z2 z3 z4 z5 (Sub.at [10, 7, 6, 5] rfl) ?_
      refine HP.one (i := 79) rfl fun _ _ z1 z2 z3 z4 z5 => ?_
      refine HO.v (V.move rfl) (ltn rfl) ?_
      refine HO.nil ?_
      refine HQ.nxt z1 z2 z3 z4 z5 (Sub.at [10, 7, 6, 5] rfl) ?_
      refine HP.setT (t := 146) rfl (by rfl) ?_
      refine HP.one (i := 80) rfl fun _ _ z1 z2 z3 z4 z5 => ?_
      refine HO.gdo rfl rfl rfl rfl ?_
      refine HO.v (V.move rfl) (ltn rfl) ?_
      refine HO.nil ?_
      refine HQ.nxt z1 z2 z3 z4 z5 (Sub.at [10, 7, 6, 5] rfl) ?_
      refine HP.one (i := 81) rfl fun _ _ z1 z2 z3 z4 z5 => ?_
      refine HO.gdo rfl rfl rfl rfl ?_
      refine HO.v (V.eqlI rfl rfl) (ltn rfl) ?_
      refine HO.nil ?_
      refine HQ.nxt z1 z2 z3 z4 z5 (Sub.at [10, 7, 6, 5] rfl) ?_
      refine HP.one (i := 82) rfl fun _ _ z1 z2 z3 z4 z5 => ?_
      refine HO.v (V.pickT rfl rfl) (ltn rfl) ?_
      refine HO.nil ?_
      refine HQ.nxt z1 z2 z3 z4 z5 (Sub.at [10, 7, 6, 5] rfl) ?_
      refine HP.one (i := 83) rfl fun _ _ z1 z2 z3 z4 z5 => ?_
      refine HO.v (V.move rfl) (ltn rfl) ?_
      refine HO.nil ?_
      refine HQ.nxt z1 z2 z3 z4 z5 (Sub.at [10, 7, 6, 5] rfl) ?_
      refine HP.setT (t := 150) rfl (by rfl) ?_
      refine HP.one (i := 84) rfl fun _ _ z1 z2 z3 z4 z5 => ?_
      refine HO.gdo rfl rfl rfl rfl ?_
      refine HO.v (V.move rfl) (ltn rfl) ?_
      refine HO.nil ?_
      refine HQ.nxt z1 z2 z3 z4 z5 (Sub.at [10, 7, 6, 5] rfl) ?_
      refine HP.one (i := 85) rfl fun _ _ z1 z2 z3 z4 z5 => ?_
      refine HO.v (V.pickT rfl rfl) (ltn rfl) ?_
      refine HO.nil ?_
      refine HQ.nxt z1 z2 z3 z4 z5 (Sub.at [10, 7, 6, 5] rfl) ?_
      refine HP.one (i := 86) rfl fun _ _ z1 z2 z3 z4 z5 => ?_
      refine HO.v (V.move rfl) (ltn rfl) ?_
      refine HO.nil ?_
      refine HQ.nxt z1 z2 z3 z4 z5 (Sub.at [10, 7, 6, 5] rfl) ?_
      refine HP.setT (t := 153) rfl (by rfl) ?_
      refine HP.one (i := 87) rfl fun _ _ z1 z2 z3 z4 z5 => ?_
      refine HO.gdo rfl rfl rfl rfl ?_
      refine HO.v (V.move rfl) (ltn rfl) ?_
      refine HO.nil ?_
      refine HQ.nxt z1 z2 z3 z4 z5 (Sub.at [10, 7, 6, 5] rfl) ?_
      refine HP.one (i := 88) rfl fun _ _ z1 z2 z3 z4 z5 => ?_
      refine HO.gdo rfl rfl rfl rfl ?_
      refine HO.v (V.eqlI rfl rfl) (ltn rfl) ?_
      refine HO.nil ?_
      refine HQ.nxt z1 z2 z3 z4 z5 (Sub.at [10, 7, 6, 5] rfl) ?_
      refine HP.one (i := 89) rfl fun _ _ z1 z2 z3 z4 z5 => ?_
      refine HO.v (V.pickT rfl rfl) (ltn rfl) ?_
      refine HO.nil ?_
      refine HQ.nxt z1 z2 z3 z4 z5 (Sub.at [10, 7, 6, 5] rfl) ?_
      refine HP.one (i := 90) rfl fun _ _ z1 z2 z3 z4 z5 => ?_
      refine HO.v (V.assign rfl) (ltn rfl) ?_
      refine HO.nil ?_
      refine HQ.nxt z1 z2 z3 z4 z5 (Sub.at [10, 7, 6, 5] rfl) ?_
      refine HP.done ?_
      refine HQ.keep (.cons (t := 0) rfl (.nil)) ?_
      refine HQ.next ?_
      refine H.ret ?_
      refine HQ.end_ rfl rfl rfl rfl (.inl rfl) _ (fun a w s => res1 Try.results6 s rfl) ?_
      refine ⟨[], _, (by exact Rems.nil), ?_⟩
      exact ⟨rfl, rfl⟩
set_option maxHeartbeats 1000000 in
theorem TopHeld_w (ins regs : Int) (ts : List Trn) (A : Option Addr) (n : Nat) (us : List Int) (Bo : Option Addr) (m : Nat) (hi : Byt ins) (hr : Byt regs) (ht : ∀ x ∈ ts, x.Ok) (hu : ∀ u ∈ us, Byt u) (hn : ts.length ≤ 9223372036854775807) (hm : us.length ≤ 9223372036854775807) :
    Tri Try.prog 3 #[.int .u8 ins, .int .u8 regs, .slice A ts.length n, .slice Bo us.length m] [roE encTr A ts, roE (encI .u8) Bo us] [] (fun v L' => v = .bool true ∧ L' = []) := by
  refine Tri.of' 24 [.int .u8 ins, .int .u8 regs, .slice A ts.length n, .slice Bo us.length m] [(0, .int .u8 ins), (1, .int .u8 regs), (2, .slice A ts.length n), (3, .slice Bo us.length m)] Try.func3 Try.ntmps3 rfl rfl rfl ?_
  intro w0
  refine H.seq ?_
  refine H.region ?_
  refine HO.v (V.assign rfl) (ltn rfl) ?_
  refine HO.nil ?_
  refine HQ.next ?_
  refine H.seq ?_
  refine H.region ?_
  refine HO.v (V.move rfl) (ltn rfl) ?_
  refine HO.v (V.move rfl) (ltn rfl) ?_
  refine HO.v (V.move rfl) (ltn rfl) ?_
  refine HO.v (V.move rfl) (ltn rfl) ?_
  refine HO.call ca5 (.cons rfl (.cons rfl (.cons rfl (.cons rfl (.nil))))) (prog14_w ins regs ts A n us Bo m hi hr ht hu hn hm) (by exact Rems.nil) (by (refine Reads.ro (.head _) ?_); (refine Reads.ro (.tail _ (.head _)) ?_); exact Reads.nil) (ltn rfl) ?_
  rintro v16 L16 ⟨C, k, D, j, rfl, rfl⟩
  dsimp only [List.nil_append, List.cons_append]
  refine HO.call ca4 (.cons rfl (.nil)) (held14_w (prog14 ins regs ts us) _ _ _ _ (prog14_right hi hr ht hu)) (by exact Rems.nil) (by (refine Reads.row (.head _) ?_); (refine Reads.row (.tail _ (.head _)) ?_); exact Reads.nil) (ltn rfl) ?_
  rintro v17 L17 ⟨rfl, rfl⟩
  dsimp only [List.nil_append, List.cons_append]
  refine HO.v (V.move rfl) (ltn rfl) ?_
  refine HO.v (V.extract rfl rfl) (ltn rfl) ?_
  refine HO.v (V.extract rfl rfl) (ltn rfl) ?_
  refine HO.v (V.assign rfl) (ltn rfl) ?_
  refine HO.v (V.assign rfl) (ltn rfl) ?_
  refine HO.nil ?_
  refine HQ.keep (.cons (t := 8) rfl (.cons (t := 10) rfl (.nil))) ?_
  refine HQ.next ?_
  refine H.seq ?_
  refine H.region ?_
  refine HO.v (V.move rfl) (ltn rfl) ?_
  refine HO.v (V.move rfl) (ltn rfl) ?_
  refine HO.setT (t := 21) rfl (by rfl) ?_
  refine HO.gdo rfl rfl rfl rfl ?_
  refine HO.call ca6 (.nil) (knows14_w) (by exact Rems.nil) (by exact Reads.nil) (ltn rfl) ?_
  rintro v22 L22 ⟨rfl, rfl⟩
  dsimp only [List.nil_append, List.cons_append]
  refine HO.v (V.pickT rfl rfl) (ltn rfl) ?_
  refine HO.v (V.assign rfl) (ltn rfl) ?_
  refine HO.nil ?_
  refine HQ.next ?_
  refine H.ret ?_
  refine HQ.end_ rfl rfl rfl rfl (.inl rfl) _ (fun a w s => res1 Try.results3 s rfl) ?_
  refine ⟨[], _, (by exact Rems.nil), ?_⟩
  exact ⟨rfl, rfl⟩

end Go.Proofs.Ytcmlghemanjaaaa
