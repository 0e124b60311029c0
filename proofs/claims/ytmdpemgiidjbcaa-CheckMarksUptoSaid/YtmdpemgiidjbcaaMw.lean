import Derived.Test.YtmdpemgiidjbcaaCd2
import Derived.Test.YtmdpemgiidjbcaaME
import Derived.KernelRfl
import Derived.Test.YtmdpemgiidjbcaaEv
set_option linter.unusedSimpArgs false
set_option linter.unusedVariables false
set_option linter.unusedSimpArgs false
set_option linter.unusedVariables false
set_option maxRecDepth 10000
set_option maxHeartbeats 1000000
namespace Go.Proofs.Ytmdpemgiidjbcaa.Cd
open Go.Am
theorem c25 : ∀ (n : Nat) (l : List TStmt), countAll l < n → n < 4000000000000000000 → ∀ h, CallS Try.prog 25 [.sl 7 (stmtVs l)] h (.ret (.int .i64 (countAll l))) h := by
  intro n
  induction n with
  | zero => intro l h; omega
  | succ n ih =>
  intro l hl hn h
  refine fun_ok ok25 rfl ?_
  show awp _ F25b (AS.mk [(5, [5, 13, 17])] [(0, .sl 7 (stmtVs l))] [] h []) _
  simp only [F25]
  refine wp_r fun K1 hK1 hP1 => ?_
  -- F25r0
  simp (config := { decide := true }) only [F25r0, eng, engc, engt, AOp.mem, true_and, and_true, eq_self, and_self, decide_true, decide_false, reduceIte, Nat.reduceEqDiff, Nat.reduceLeDiff, Nat.reduceAdd, Nat.reduceLT]
  refine hK1 _ ?_
  simp only [keep_mk, only_cons, only_nil, look_cons, look_nil, reduceIte, Nat.reduceEqDiff, Nat.reduceAdd]
  refine wp_r fun K2 hK2 hP2 => ?_
  -- F25r1
  simp (config := { decide := true }) only [F25r1, eng, engc, engt, AOp.mem, true_and, and_true, eq_self, and_self, decide_true, decide_false, reduceIte, Nat.reduceEqDiff, Nat.reduceLeDiff, Nat.reduceAdd, Nat.reduceLT]
  refine hK2 _ ?_
  simp only [keep_mk, only_cons, only_nil, look_cons, look_nil, reduceIte, Nat.reduceEqDiff, Nat.reduceAdd]
  refine wp_seq' fun K3 hK3 hX3 => ?_
  refine wp_r fun K4 hK4 hP4 => ?_
  -- F25r2
  simp (config := { decide := true }) only [F25r2, eng, engc, engt, AOp.mem, true_and, and_true, eq_self, and_self, decide_true, decide_false, reduceIte, Nat.reduceEqDiff, Nat.reduceLeDiff, Nat.reduceAdd, Nat.reduceLT]
  refine hK4 _ ?_
  simp only [keep_mk, only_cons, only_nil, look_cons, look_nil, reduceIte, Nat.reduceEqDiff, Nat.reduceAdd]
  refine wp_blk' fun K5 hB5 hE5 hR5 hP5 => ?_
  refine wp_loop' (fun k s => k ≤ l.length ∧ s = AS.mk [(5, [5, 13, 17])] [(3, .int .i64 (countAll (l.take k))), (6, .sl 7 (stmtVs l)), (7, .int .i64 l.length), (8, .int .i64 k)] [] h []) (fun k => l.length - k) (0) ⟨Nat.zero_le _, rfl⟩ ?_
  rintro k s ⟨hk, rfl⟩
  refine ⟨_, Weak.refl _, fun K6 hN6 hX6 => ?_⟩
  refine wp_r fun K7 hK7 hP7 => ?_
  -- F25r3
  simp (config := { decide := true }) only [F25r3, eng, engc, engt, AOp.mem, true_and, and_true, eq_self, and_self, decide_true, decide_false, reduceIte, Nat.reduceEqDiff, Nat.reduceLeDiff, Nat.reduceAdd, Nat.reduceLT]
  refine hK7 _ ?_
  simp only [keep_mk, only_cons, only_nil, look_cons, look_nil, reduceIte, Nat.reduceEqDiff, Nat.reduceAdd]
  refine wp_seq' fun K8 hK8 hX8 => ?_
  refine wp_cond' rfl (fun hc => ?_) (fun hc => ?_)
  · skip
    simp only [decide_eq_true_eq, decide_eq_false_iff_not] at hc
    obtain ⟨x, hx⟩ := get_some (l := l) (k := k) (by omega)
    have hq := countAll_take hx
    have hle := countAll_le l (k + 1)
    have hce := TStmt.count_eq x
    have hln := len_le_count l
    refine wp_skip' ?_
    refine hK8 _ ?_
    refine wp_seq' fun K9 hK9 hX9 => ?_
    refine wp_blk' fun K10 hB10 hE10 hR10 hP10 => ?_
    refine wp_r fun K11 hK11 hP11 => ?_
    -- F25r4
    simp (config := { decide := true }) only [F25r4, eng, engc, engt, AOp.mem, true_and, and_true, eq_self, and_self, decide_true, decide_false, reduceIte, Nat.reduceEqDiff, Nat.reduceLeDiff, Nat.reduceAdd, Nat.reduceLT, hx]
    refine hK11 _ ?_
    simp only [keep_mk, only_cons, only_nil, look_cons, look_nil, reduceIte, Nat.reduceEqDiff, Nat.reduceAdd]
    refine wp_dr' (by kernel_rfl) fun K12 hK12 hP12 => ?_
    -- F25r5
    simp (config := { decide := true }) only [F25r5, eng, engc, engt, AOp.mem, true_and, and_true, eq_self, and_self, decide_true, decide_false, reduceIte, Nat.reduceEqDiff, Nat.reduceLeDiff, Nat.reduceAdd, Nat.reduceLT, hx]
    repeat refine ⟨rfl, ?_⟩
    try simp (disch := omega) only [wrap_id, engd, engt]
    refine RCall.pure (ih _ (by omega) (by omega) h) rfl rfl ?_
    simp (config := { decide := true }) only [eng, engc, engt, AOp.mem, true_and, and_true, eq_self, and_self, decide_true, decide_false, reduceIte, Nat.reduceEqDiff, Nat.reduceLeDiff, Nat.reduceAdd, Nat.reduceLT, hx]
    try simp (disch := omega) only [wrap_id, engd, engt]
    repeat refine ⟨rfl, ?_⟩
    try simp (disch := omega) only [wrap_id, engd, engt]
    refine RCall.pure (ih _ (by omega) (by omega) h) rfl rfl ?_
    simp (config := { decide := true }) only [eng, engc, engt, AOp.mem, true_and, and_true, eq_self, and_self, decide_true, decide_false, reduceIte, Nat.reduceEqDiff, Nat.reduceLeDiff, Nat.reduceAdd, Nat.reduceLT, hx]
    try simp (disch := omega) only [wrap_id, engd, engt]
    repeat refine ⟨rfl, ?_⟩
    try simp (disch := omega) only [wrap_id, engd, engt]
    refine hK12 _ ?_
    simp only [keep_mk, only_cons, only_nil, look_cons, look_nil, reduceIte, Nat.reduceEqDiff, Nat.reduceAdd]
    refine (hB10 _ ?_).1
    refine hK9 _ ?_
    refine wp_r' fun K13 hK13 hP13 => ?_
    -- F25r6
    simp (config := { decide := true }) only [F25r6, eng, engc, engt, AOp.mem, true_and, and_true, eq_self, and_self, decide_true, decide_false, reduceIte, Nat.reduceEqDiff, Nat.reduceLeDiff, Nat.reduceAdd, Nat.reduceLT, hx]
    try simp (disch := omega) only [wrap_id, engd, engt]
    refine hK13 _ ?_
    simp only [keep_mk, only_cons, only_nil, look_cons, look_nil, reduceIte, Nat.reduceEqDiff, Nat.reduceAdd]
    refine hN6 (k + 1) _ (by omega) ⟨by omega, ?_⟩
    simp only [AS.mk.injEq, List.cons.injEq, Prod.mk.injEq, AV.int.injEq, true_and, and_true, and_self, eq_self]
    omega
  · skip
    simp only [decide_eq_true_eq, decide_eq_false_iff_not] at hc
    have hk2 : k = l.length := by omega
    subst hk2
    simp only [List.take_length]
    refine wp_exit' ?_
    refine hX8 _ _ (by simp) ?_
    refine hX6 _ _ (by simp) ?_
    refine (hB5 _ ?_).2
    refine hK3 _ ?_
    refine wp_r fun K14 hK14 hP14 => ?_
    -- F25r7
    simp (config := { decide := true }) only [F25r7, eng, engc, engt, AOp.mem, true_and, and_true, eq_self, and_self, decide_true, decide_false, reduceIte, Nat.reduceEqDiff, Nat.reduceLeDiff, Nat.reduceAdd, Nat.reduceLT]
    refine hK14 _ ?_
    simp only [keep_mk, only_cons, only_nil, look_cons, look_nil, reduceIte, Nat.reduceEqDiff, Nat.reduceAdd]
    refine wp_ret' ?_
    exact fin_ret1 rfl rfl

end Go.Proofs.Ytmdpemgiidjbcaa.Cd

set_option linter.unusedSimpArgs false
set_option linter.unusedVariables false
namespace Go.Proofs.Ytmdpemgiidjbcaa.Cd
open Go.Am
theorem c30 : ∀ (n : Nat) (l : List TStmt), countAll l < n → n < 4000000000000000000 → ∀ h, CallS Try.prog 30 [.sl 7 (stmtVs l)] h (.ret (.int .i64 (countAll l))) h := by
  intro n
  induction n with
  | zero => intro l h; omega
  | succ n ih =>
  intro l hl hn h
  refine fun_ok ok30 rfl ?_
  show awp _ F30b (AS.mk [] [(0, .sl 7 (stmtVs l))] [] h []) _
  refine wp_r fun K1 hK1 hP1 => ?_
  -- F30r0
  simp only [F30r0, eng, engc, engt, AOp.mem, true_and, and_true, eq_self, and_self, decide_true, decide_false, reduceIte, Nat.reduceEqDiff, Nat.reduceLeDiff, Nat.reduceAdd, Nat.reduceLT]
  refine hK1 _ ?_
  simp only [keep_mk, only_cons, only_nil, look_cons, look_nil, reduceIte, Nat.reduceEqDiff, Nat.reduceAdd]
  refine wp_r fun K2 hK2 hP2 => ?_
  -- F30r1
  simp only [F30r1, eng, engc, engt, AOp.mem, true_and, and_true, eq_self, and_self, decide_true, decide_false, reduceIte, Nat.reduceEqDiff, Nat.reduceLeDiff, Nat.reduceAdd, Nat.reduceLT]
  refine hK2 _ ?_
  simp only [keep_mk, only_cons, only_nil, look_cons, look_nil, reduceIte, Nat.reduceEqDiff, Nat.reduceAdd]
  refine wp_seq' fun K3 hK3 hX3 => ?_
  refine wp_r fun K4 hK4 hP4 => ?_
  -- F30r2
  simp only [F30r2, eng, engc, engt, AOp.mem, true_and, and_true, eq_self, and_self, decide_true, decide_false, reduceIte, Nat.reduceEqDiff, Nat.reduceLeDiff, Nat.reduceAdd, Nat.reduceLT]
  refine hK4 _ ?_
  simp only [keep_mk, only_cons, only_nil, look_cons, look_nil, reduceIte, Nat.reduceEqDiff, Nat.reduceAdd]
  refine wp_blk' fun K5 hB5 hE5 hR5 hP5 => ?_
  refine wp_loop' (fun k s => k ≤ l.length ∧ s = AS.mk [] [(0, .sl 7 (stmtVs l)), (3, .int .i64 (countAll (l.take k))), (4, .int .i64 k)] [] h []) (fun k => l.length - k) (0) ⟨Nat.zero_le _, rfl⟩ ?_
  rintro k s ⟨hk, rfl⟩
  refine ⟨_, Weak.refl _, fun K6 hN6 hX6 => ?_⟩
  refine wp_seq' fun K7 hK7 hX7 => ?_
  refine wp_r fun K8 hK8 hP8 => ?_
  -- F30r3
  simp only [F30r3, eng, engc, engt, AOp.mem, true_and, and_true, eq_self, and_self, decide_true, decide_false, reduceIte, Nat.reduceEqDiff, Nat.reduceLeDiff, Nat.reduceAdd, Nat.reduceLT]
  refine hK8 _ ?_
  simp only [keep_mk, only_cons, only_nil, look_cons, look_nil, reduceIte, Nat.reduceEqDiff, Nat.reduceAdd]
  refine wp_cond' rfl (fun hc => ?_) (fun hc => ?_)
  · skip
    simp only [decide_eq_true_eq, decide_eq_false_iff_not] at hc
    obtain ⟨x, hx⟩ := get_some (l := l) (k := k) (by omega)
    have hq := countAll_take hx
    have hle := countAll_le l (k + 1)
    have hce := TStmt.count_eq x
    have hln := len_le_count l
    refine wp_skip' ?_
    refine hK7 _ ?_
    refine wp_seq' fun K9 hK9 hX9 => ?_
    refine wp_blk' fun K10 hB10 hE10 hR10 hP10 => ?_
    refine wp_r fun K11 hK11 hP11 => ?_
    -- F30r4
    simp only [F30r4, eng, engc, engt, AOp.mem, true_and, and_true, eq_self, and_self, decide_true, decide_false, reduceIte, Nat.reduceEqDiff, Nat.reduceLeDiff, Nat.reduceAdd, Nat.reduceLT, hx]
    try simp (disch := omega) only [wrap_id, engd, engt]
    refine hK11 _ ?_
    simp only [keep_mk, only_cons, only_nil, look_cons, look_nil, reduceIte, Nat.reduceEqDiff, Nat.reduceAdd]
    refine wp_r fun K12 hK12 hP12 => ?_
    -- F30r5
    simp only [F30r5, eng, engc, engt, AOp.mem, true_and, and_true, eq_self, and_self, decide_true, decide_false, reduceIte, Nat.reduceEqDiff, Nat.reduceLeDiff, Nat.reduceAdd, Nat.reduceLT, hx]
    try simp (disch := omega) only [wrap_id, engd, engt]
    refine WCall.ret (ih _ (by omega) (by omega) h) rfl ?_
    simp only [eng, engc, engt, AOp.mem, true_and, and_true, eq_self, and_self, decide_true, decide_false, reduceIte, Nat.reduceEqDiff, Nat.reduceLeDiff, Nat.reduceAdd, Nat.reduceLT, hx]
    try simp (disch := omega) only [wrap_id, engd, engt]
    try simp (disch := omega) only [wrap_id, engd, engt]
    refine hK12 _ ?_
    simp only [keep_mk, only_cons, only_nil, look_cons, look_nil, reduceIte, Nat.reduceEqDiff, Nat.reduceAdd]
    refine wp_r' fun K13 hK13 hP13 => ?_
    -- F30r6
    simp only [F30r6, eng, engc, engt, AOp.mem, true_and, and_true, eq_self, and_self, decide_true, decide_false, reduceIte, Nat.reduceEqDiff, Nat.reduceLeDiff, Nat.reduceAdd, Nat.reduceLT, hx]
    try simp (disch := omega) only [wrap_id, engd, engt]
    refine WCall.ret (ih _ (by omega) (by omega) h) rfl ?_
    simp only [eng, engc, engt, AOp.mem, true_and, and_true, eq_self, and_self, decide_true, decide_false, reduceIte, Nat.reduceEqDiff, Nat.reduceLeDiff, Nat.reduceAdd, Nat.reduceLT, hx]
    try simp (disch := omega) only [wrap_id, engd, engt]
    try simp (disch := omega) only [wrap_id, engd, engt]
    refine hK13 _ ?_
    simp only [keep_mk, only_cons, only_nil, look_cons, look_nil, reduceIte, Nat.reduceEqDiff, Nat.reduceAdd]
    refine (hB10 _ ?_).1
    refine hK9 _ ?_
    refine wp_r' fun K14 hK14 hP14 => ?_
    -- F30r7
    simp only [F30r7, eng, engc, engt, AOp.mem, true_and, and_true, eq_self, and_self, decide_true, decide_false, reduceIte, Nat.reduceEqDiff, Nat.reduceLeDiff, Nat.reduceAdd, Nat.reduceLT, hx]
    try simp (disch := omega) only [wrap_id, engd, engt]
    refine hK14 _ ?_
    simp only [keep_mk, only_cons, only_nil, look_cons, look_nil, reduceIte, Nat.reduceEqDiff, Nat.reduceAdd]
    refine hN6 (k + 1) _ (by omega) ⟨by omega, ?_⟩
    simp only [AS.mk.injEq, List.cons.injEq, Prod.mk.injEq, AV.int.injEq, true_and, and_true, and_self, eq_self]
    omega
  · skip
    simp only [decide_eq_true_eq, decide_eq_false_iff_not] at hc
    have hk2 : k = l.length := by omega
    subst hk2
    simp only [List.take_length]
    refine wp_exit' ?_
    refine hX7 _ _ (by simp) ?_
    refine hX6 _ _ (by simp) ?_
    refine (hB5 _ ?_).2
    refine hK3 _ ?_
    refine wp_r fun K15 hK15 hP15 => ?_
    -- F30r8
    simp only [F30r8, eng, engc, engt, AOp.mem, true_and, and_true, eq_self, and_self, decide_true, decide_false, reduceIte, Nat.reduceEqDiff, Nat.reduceLeDiff, Nat.reduceAdd, Nat.reduceLT]
    refine hK15 _ ?_
    simp only [keep_mk, only_cons, only_nil, look_cons, look_nil, reduceIte, Nat.reduceEqDiff, Nat.reduceAdd]
    refine wp_ret' ?_
    exact fin_ret1 rfl rfl
end Go.Proofs.Ytmdpemgiidjbcaa.Cd

set_option linter.unusedSimpArgs false
set_option linter.unusedVariables false
set_option maxRecDepth 10000
set_option maxHeartbeats 1000000
namespace Go.Proofs.Ytmdpemgiidjbcaa.Cd
open Go.Am
theorem c27 : ∀ (n : Nat) (l : List TStmt) (m : Nat), countAll l < n → n < 4000000000000000000 → 1 ≤ m → m < 9223372036854775808 → ∀ h, CallS Try.prog 27 [.sl 7 (stmtVs l), .int .i64 m] h (.ret (.tup [optS (flatAll l)[m - 1]?, .bool (flatAll l)[m - 1]?.isSome])) h := by
  intro n
  induction n with
  | zero => intro l m h; omega
  | succ n ih =>
  intro l m hl hn hm1 hm2 h
  refine fun_ok ok27 rfl ?_
  show awp _ F27b (AS.mk [(4, [4]), (7, [7, 19, 23, 33, 40, 47, 51])] [(0, .sl 7 (stmtVs l)), (1, .int .i64 m)] [] h []) _
  simp only [F27]
  generalize hr : (flatAll l)[m - 1]? = r
  refine wp_r fun K1 hK1 hP1 => ?_
  -- F27r0
  simp (config := { decide := true }) only [F27r0, eng, engc, engt, AOp.mem, true_and, and_true, eq_self, and_self, decide_true, decide_false, reduceIte, Nat.reduceEqDiff, Nat.reduceLeDiff, Nat.reduceAdd, Nat.reduceLT, optS_dgc, optS_dg, optS_isV, optS_clen]
  refine hK1 _ ?_
  simp only [keep_mk, only_cons, only_nil, look_cons, look_nil, reduceIte, Nat.reduceEqDiff, Nat.reduceAdd]
  refine wp_seq' fun K2 hK2 hX2 => ?_
  refine wp_r fun K3 hK3 hP3 => ?_
  -- F27r1
  simp (config := { decide := true }) only [F27r1, eng, engc, engt, AOp.mem, true_and, and_true, eq_self, and_self, decide_true, decide_false, reduceIte, Nat.reduceEqDiff, Nat.reduceLeDiff, Nat.reduceAdd, Nat.reduceLT, optS_dgc, optS_dg, optS_isV, optS_clen]
  refine hK3 _ ?_
  simp only [keep_mk, only_cons, only_nil, look_cons, look_nil, reduceIte, Nat.reduceEqDiff, Nat.reduceAdd]
  refine wp_blk' fun K4 hB4 hE4 hR4 hP4 => ?_
  refine wp_loop' (fun (q : Nat × Nat) s => q.1 ≤ l.length ∧ 1 ≤ q.2 ∧ q.2 ≤ m ∧ (flatAll (l.drop q.1))[q.2 - 1]? = r ∧ s = AS.mk [(4, [4]), (7, [7, 19, 23, 33, 40, 47, 51])] [(1, .int .i64 q.2), (4, .lptr 4 0), (10, .sl 7 (stmtVs l)), (11, .int .i64 l.length), (12, .int .i64 q.1)] [(4, zstmt.cells)] h []) (fun q => l.length - q.1) ((0, m)) ⟨Nat.zero_le _, hm1, Nat.le_refl _, by simpa using hr, rfl⟩ ?_
  rintro ⟨k, m'⟩ s ⟨hk, hm3, hm4, hr, rfl⟩
  simp only at hk hm3 hm4 hr ⊢
  simp only [F27, zstmt, cells_agg]
  refine ⟨_, Weak.refl _, fun K5 hN5 hX5 => ?_⟩
  refine wp_r fun K6 hK6 hP6 => ?_
  -- F27r2
  simp (config := { decide := true }) only [F27r2, eng, engc, engt, AOp.mem, true_and, and_true, eq_self, and_self, decide_true, decide_false, reduceIte, Nat.reduceEqDiff, Nat.reduceLeDiff, Nat.reduceAdd, Nat.reduceLT, optS_dgc, optS_dg, optS_isV, optS_clen]
  refine hK6 _ ?_
  simp only [keep_mk, only_cons, only_nil, look_cons, look_nil, reduceIte, Nat.reduceEqDiff, Nat.reduceAdd]
  refine wp_seq' fun K7 hK7 hX7 => ?_
  refine wp_cond' rfl (fun hc => ?_) (fun hc => ?_)
  · skip
    simp only [decide_eq_true_eq, decide_eq_false_iff_not] at hc
    obtain ⟨x, hx⟩ := get_some (l := l) (k := k) (by omega)
    have hdr : l.drop k = x :: l.drop (k + 1) := by
      have := List.drop_eq_getElem_cons (l := l) (i := k) (by omega)
      rw [this]; congr 1
      have h2 := List.getElem?_eq_getElem (l := l) (i := k) (by omega)
      rw [h2] at hx; cases hx; rfl
    have hq := countAll_take hx
    have hle := countAll_le l (k + 1)
    have hce := TStmt.count_eq x
    have hln := len_le_count l
    have hfe := TStmt.flat_eq x
    have hfl := TStmt.flat_len x
    have hfb := flatAll_len x.body
    have hfb2 := flatAll_len x.els
    rw [hdr, flatAll, hfe] at hr
    refine wp_skip' ?_
    refine hK7 _ ?_
    refine wp_seq' fun K8 hK8 hX8 => ?_
    refine wp_blk' fun K9 hB9 hE9 hR9 hP9 => ?_
    refine wp_r fun K10 hK10 hP10 => ?_
    -- F27r3
    simp (config := { decide := true }) only [F27r3, eng, engc, engt, AOp.mem, true_and, and_true, eq_self, and_self, decide_true, decide_false, reduceIte, Nat.reduceEqDiff, Nat.reduceLeDiff, Nat.reduceAdd, Nat.reduceLT, optS_dgc, optS_dg, optS_isV, optS_clen, hx]
    refine hK10 _ ?_
    simp only [keep_mk, only_cons, only_nil, look_cons, look_nil, reduceIte, Nat.reduceEqDiff, Nat.reduceAdd]
    refine wp_seq' fun K11 hK11 hX11 => ?_
    refine wp_r fun K12 hK12 hP12 => ?_
    -- F27r4
    simp (config := { decide := true }) only [F27r4, eng, engc, engt, AOp.mem, true_and, and_true, eq_self, and_self, decide_true, decide_false, reduceIte, Nat.reduceEqDiff, Nat.reduceLeDiff, Nat.reduceAdd, Nat.reduceLT, optS_dgc, optS_dg, optS_isV, optS_clen, hx]
    refine hK12 _ ?_
    simp only [keep_mk, only_cons, only_nil, look_cons, look_nil, reduceIte, Nat.reduceEqDiff, Nat.reduceAdd]
    refine wp_cond' rfl (fun hc => ?_) (fun hc => ?_)
    · skip
      simp only [decide_eq_true_eq, decide_eq_false_iff_not] at hc
      refine wp_r fun K13 hK13 hP13 => ?_
      -- F27r5
      simp (config := { decide := true }) only [F27r5, eng, engc, engt, AOp.mem, true_and, and_true, eq_self, and_self, decide_true, decide_false, reduceIte, Nat.reduceEqDiff, Nat.reduceLeDiff, Nat.reduceAdd, Nat.reduceLT, optS_dgc, optS_dg, optS_isV, optS_clen, hx]
      refine hK13 _ ?_
      simp only [keep_mk, only_cons, only_nil, look_cons, look_nil, reduceIte, Nat.reduceEqDiff, Nat.reduceAdd]
      refine wp_ret' ?_
      refine hX11 _ _ (by simp) ?_
      refine hR9 _ ?_
      refine hX8 _ _ (by simp) ?_
      refine hX5 _ _ (by simp) ?_
      refine hR4 _ ?_
      refine hX2 _ _ (by simp) ?_
      obtain rfl : m' = 1 := by omega
      simp only [Nat.sub_self, List.cons_append, List.getElem?_cons_zero] at hr
      subst hr
      exact fin_cell_tmp rfl rfl rfl (by cases x; rfl) rfl rfl
    · skip
      simp only [decide_eq_true_eq, decide_eq_false_iff_not] at hc
      refine wp_skip' ?_
      refine hK11 _ ?_
      refine wp_dr (by kernel_rfl) fun K14 hK14 hP14 => ?_
      -- F27r6
      simp (config := { decide := true }) only [F27r6, eng, engc, engt, AOp.mem, true_and, and_true, eq_self, and_self, decide_true, decide_false, reduceIte, Nat.reduceEqDiff, Nat.reduceLeDiff, Nat.reduceAdd, Nat.reduceLT, optS_dgc, optS_dg, optS_isV, optS_clen, hx]
      repeat refine ⟨rfl, ?_⟩
      try simp (disch := omega) only [wrap_id, engd, engt, optS_dgc, optS_dg, optS_isV, optS_clen]
      refine RCall.pure (c25 (n + 1) _ (by omega) (by omega) h) rfl rfl ?_
      simp (config := { decide := true }) only [eng, engc, engt, AOp.mem, true_and, and_true, eq_self, and_self, decide_true, decide_false, reduceIte, Nat.reduceEqDiff, Nat.reduceLeDiff, Nat.reduceAdd, Nat.reduceLT, optS_dgc, optS_dg, optS_isV, optS_clen, hx]
      try simp (disch := omega) only [wrap_id, engd, engt, optS_dgc, optS_dg, optS_isV, optS_clen]
      repeat refine ⟨rfl, ?_⟩
      try simp (disch := omega) only [wrap_id, engd, engt, optS_dgc, optS_dg, optS_isV, optS_clen]
      refine RCall.pure (c25 (n + 1) _ (by omega) (by omega) h) rfl rfl ?_
      simp (config := { decide := true }) only [eng, engc, engt, AOp.mem, true_and, and_true, eq_self, and_self, decide_true, decide_false, reduceIte, Nat.reduceEqDiff, Nat.reduceLeDiff, Nat.reduceAdd, Nat.reduceLT, optS_dgc, optS_dg, optS_isV, optS_clen, hx]
      try simp (disch := omega) only [wrap_id, engd, engt, optS_dgc, optS_dg, optS_isV, optS_clen]
      repeat refine ⟨rfl, ?_⟩
      try simp (disch := omega) only [wrap_id, engd, engt, optS_dgc, optS_dg, optS_isV, optS_clen]
      refine hK14 _ ?_
      simp only [keep_mk, only_cons, only_nil, look_cons, look_nil, reduceIte, Nat.reduceEqDiff, Nat.reduceAdd]
      refine wp_seq' fun K15 hK15 hX15 => ?_
      refine wp_r fun K16 hK16 hP16 => ?_
      -- F27r7
      simp (config := { decide := true }) only [F27r7, eng, engc, engt, AOp.mem, true_and, and_true, eq_self, and_self, decide_true, decide_false, reduceIte, Nat.reduceEqDiff, Nat.reduceLeDiff, Nat.reduceAdd, Nat.reduceLT, optS_dgc, optS_dg, optS_isV, optS_clen, hx]
      refine hK16 _ ?_
      simp only [keep_mk, only_cons, only_nil, look_cons, look_nil, reduceIte, Nat.reduceEqDiff, Nat.reduceAdd]
      refine wp_cond' rfl (fun hc => ?_) (fun hc => ?_)
      · skip
        simp only [decide_eq_true_eq, decide_eq_false_iff_not] at hc
        refine wp_r fun K17 hK17 hP17 => ?_
        -- F27r8
        simp (config := { decide := true }) only [F27r8, eng, engc, engt, AOp.mem, true_and, and_true, eq_self, and_self, decide_true, decide_false, reduceIte, Nat.reduceEqDiff, Nat.reduceLeDiff, Nat.reduceAdd, Nat.reduceLT, optS_dgc, optS_dg, optS_isV, optS_clen, hx]
        try simp (disch := omega) only [wrap_id, engd, engt, optS_dgc, optS_dg, optS_isV, optS_clen]
        refine hK17 _ ?_
        simp only [keep_mk, only_cons, only_nil, look_cons, look_nil, reduceIte, Nat.reduceEqDiff, Nat.reduceAdd]
        refine wp_exit' ?_
        refine hX15 _ _ (by simp) ?_
        refine (hB9 _ ?_).2
        refine hK8 _ ?_
        refine wp_r' fun K18 hK18 hP18 => ?_
        -- F27r13
        simp (config := { decide := true }) only [F27r13, eng, engc, engt, AOp.mem, true_and, and_true, eq_self, and_self, decide_true, decide_false, reduceIte, Nat.reduceEqDiff, Nat.reduceLeDiff, Nat.reduceAdd, Nat.reduceLT, optS_dgc, optS_dg, optS_isV, optS_clen, hx]
        try simp (disch := omega) only [wrap_id, engd, engt, optS_dgc, optS_dg, optS_isV, optS_clen]
        refine hK18 _ ?_
        simp only [keep_mk, only_cons, only_nil, look_cons, look_nil, reduceIte, Nat.reduceEqDiff, Nat.reduceAdd]
        refine hN5 (k + 1, m' - (1 + countAll x.body + countAll x.els)) _ (by simp only; omega) ⟨by simp only; omega, by simp only; omega, by simp only; omega, ?_, ?_⟩
        · rw [← hr]; simp only; rw [List.getElem?_append_right (by simp only [List.length_cons, List.length_append, flatAll_len]; omega)]; congr 1; simp only [List.length_cons, List.length_append, flatAll_len]; omega
        · simp only [F27, zstmt, cells_agg]; simp only [AS.mk.injEq, List.cons.injEq, Prod.mk.injEq, AV.int.injEq, true_and, and_true, and_self, eq_self]; omega
      · skip
        simp only [decide_eq_true_eq, decide_eq_false_iff_not] at hc
        refine wp_skip' ?_
        refine hK15 _ ?_
        refine wp_seq' fun K19 hK19 hX19 => ?_
        refine wp_r fun K20 hK20 hP20 => ?_
        -- F27r9
        simp (config := { decide := true }) only [F27r9, eng, engc, engt, AOp.mem, true_and, and_true, eq_self, and_self, decide_true, decide_false, reduceIte, Nat.reduceEqDiff, Nat.reduceLeDiff, Nat.reduceAdd, Nat.reduceLT, optS_dgc, optS_dg, optS_isV, optS_clen, hx]
        try simp (disch := omega) only [wrap_id, engd, engt, optS_dgc, optS_dg, optS_isV, optS_clen]
        refine WCall.ret (c25 (n + 1) _ (by omega) (by omega) h) rfl ?_
        simp (config := { decide := true }) only [eng, engc, engt, AOp.mem, true_and, and_true, eq_self, and_self, decide_true, decide_false, reduceIte, Nat.reduceEqDiff, Nat.reduceLeDiff, Nat.reduceAdd, Nat.reduceLT, optS_dgc, optS_dg, optS_isV, optS_clen, hx]
        try simp (disch := omega) only [wrap_id, engd, engt, optS_dgc, optS_dg, optS_isV, optS_clen]
        refine hK20 _ ?_
        simp only [keep_mk, only_cons, only_nil, look_cons, look_nil, reduceIte, Nat.reduceEqDiff, Nat.reduceAdd]
        refine wp_r fun K21 hK21 hP21 => ?_
        -- F27r10
        simp (config := { decide := true }) only [F27r10, eng, engc, engt, AOp.mem, true_and, and_true, eq_self, and_self, decide_true, decide_false, reduceIte, Nat.reduceEqDiff, Nat.reduceLeDiff, Nat.reduceAdd, Nat.reduceLT, optS_dgc, optS_dg, optS_isV, optS_clen, hx]
        try simp (disch := omega) only [wrap_id, engd, engt, optS_dgc, optS_dg, optS_isV, optS_clen]
        refine hK21 _ ?_
        simp only [keep_mk, only_cons, only_nil, look_cons, look_nil, reduceIte, Nat.reduceEqDiff, Nat.reduceAdd]
        refine wp_cond' rfl (fun hc => ?_) (fun hc => ?_)
        · skip
          simp only [decide_eq_true_eq, decide_eq_false_iff_not] at hc
          refine wp_r fun K22 hK22 hP22 => ?_
          -- F27r11
          simp (config := { decide := true }) only [F27r11, eng, engc, engt, AOp.mem, true_and, and_true, eq_self, and_self, decide_true, decide_false, reduceIte, Nat.reduceEqDiff, Nat.reduceLeDiff, Nat.reduceAdd, Nat.reduceLT, optS_dgc, optS_dg, optS_isV, optS_clen, hx]
          try simp (disch := omega) only [wrap_id, engd, engt, optS_dgc, optS_dg, optS_isV, optS_clen]
          rw [show (m' : Int) - 1 = ((m' - 1 : Nat) : Int) by omega]
          refine WCall.ret (ih x.body (m' - 1) (by omega) (by omega) (by omega) (by omega) h) rfl ?_
          simp (config := { decide := true }) only [eng, engc, engt, AOp.mem, true_and, and_true, eq_self, and_self, decide_true, decide_false, reduceIte, Nat.reduceEqDiff, Nat.reduceLeDiff, Nat.reduceAdd, Nat.reduceLT, optS_dgc, optS_dg, optS_isV, optS_clen, hx]
          try simp (disch := omega) only [wrap_id, engd, engt, optS_dgc, optS_dg, optS_isV, optS_clen]
          try simp (disch := omega) only [wrap_id, engd, engt, optS_dgc, optS_dg, optS_isV, optS_clen]
          refine hK22 _ ?_
          simp only [keep_mk, only_cons, only_nil, look_cons, look_nil, reduceIte, Nat.reduceEqDiff, Nat.reduceAdd]
          refine wp_ret' ?_
          refine hX19 _ _ (by simp) ?_
          refine hR9 _ ?_
          refine hX8 _ _ (by simp) ?_
          refine hX5 _ _ (by simp) ?_
          refine hR4 _ ?_
          refine hX2 _ _ (by simp) ?_
          have hr2 : (flatAll x.body)[m' - 1 - 1]? = r := by
            rw [← hr, List.cons_append, show m' - 1 = (m' - 1 - 1) + 1 by omega, List.getElem?_cons_succ, List.append_assoc, List.getElem?_append_left (by omega)]; rfl
          rw [hr2]
          exact fin_cell_tmp rfl rfl (optS_win r) (optS_agg r) rfl rfl
        · skip
          simp only [decide_eq_true_eq, decide_eq_false_iff_not] at hc
          refine wp_skip' ?_
          refine hK19 _ ?_
          refine wp_dr (by kernel_rfl) fun K23 hK23 hP23 => ?_
          -- F27r12
          simp (config := { decide := true }) only [F27r12, eng, engc, engt, AOp.mem, true_and, and_true, eq_self, and_self, decide_true, decide_false, reduceIte, Nat.reduceEqDiff, Nat.reduceLeDiff, Nat.reduceAdd, Nat.reduceLT, optS_dgc, optS_dg, optS_isV, optS_clen, hx]
          repeat refine ⟨rfl, ?_⟩
          try simp (disch := omega) only [wrap_id, engd, engt, optS_dgc, optS_dg, optS_isV, optS_clen]
          refine RCall.pure (c25 (n + 1) _ (by omega) (by omega) h) rfl rfl ?_
          simp (config := { decide := true }) only [eng, engc, engt, AOp.mem, true_and, and_true, eq_self, and_self, decide_true, decide_false, reduceIte, Nat.reduceEqDiff, Nat.reduceLeDiff, Nat.reduceAdd, Nat.reduceLT, optS_dgc, optS_dg, optS_isV, optS_clen, hx]
          try simp (disch := omega) only [wrap_id, engd, engt, optS_dgc, optS_dg, optS_isV, optS_clen]
          repeat refine ⟨rfl, ?_⟩
          try simp (disch := omega) only [wrap_id, engd, engt, optS_dgc, optS_dg, optS_isV, optS_clen]
          rw [show (m' : Int) - 1 - (countAll x.body : Int) = ((m' - 1 - countAll x.body : Nat) : Int) by omega]
          refine RCall.pure (ih x.els (m' - 1 - countAll x.body) (by omega) (by omega) (by omega) (by omega) h) rfl rfl ?_
          simp (config := { decide := true }) only [eng, engc, engt, AOp.mem, true_and, and_true, eq_self, and_self, decide_true, decide_false, reduceIte, Nat.reduceEqDiff, Nat.reduceLeDiff, Nat.reduceAdd, Nat.reduceLT, optS_dgc, optS_dg, optS_isV, optS_clen, hx]
          try simp (disch := omega) only [wrap_id, engd, engt, optS_dgc, optS_dg, optS_isV, optS_clen]
          repeat refine ⟨rfl, ?_⟩
          try simp (disch := omega) only [wrap_id, engd, engt, optS_dgc, optS_dg, optS_isV, optS_clen]
          refine hK23 _ ?_
          simp only [keep_mk, only_cons, only_nil, look_cons, look_nil, reduceIte, Nat.reduceEqDiff, Nat.reduceAdd]
          refine wp_ret' ?_
          refine hR9 _ ?_
          refine hX8 _ _ (by simp) ?_
          refine hX5 _ _ (by simp) ?_
          refine hR4 _ ?_
          refine hX2 _ _ (by simp) ?_
          have hr2 : (flatAll x.els)[m' - 1 - countAll x.body - 1]? = r := by
            rw [← hr, List.cons_append, show m' - 1 = (m' - 1 - 1) + 1 by omega, List.getElem?_cons_succ, List.append_assoc, List.getElem?_append_right (by omega), List.getElem?_append_left (by omega)]; congr 1; omega
          rw [hr2]
          exact fin_cell_tmp rfl rfl (optS_win r) (optS_agg r) rfl rfl
  · skip
    simp only [decide_eq_true_eq, decide_eq_false_iff_not] at hc
    have hk2 : k = l.length := by omega
    subst hk2
    rw [List.drop_length] at hr
    simp only [flatAll, List.getElem?_nil] at hr
    subst hr
    refine wp_exit' ?_
    refine hX7 _ _ (by simp) ?_
    refine hX5 _ _ (by simp) ?_
    refine (hB4 _ ?_).2
    refine hK2 _ ?_
    refine wp_r fun K24 hK24 hP24 => ?_
    -- F27r14
    simp (config := { decide := true }) only [F27r14, eng, engc, engt, AOp.mem, true_and, and_true, eq_self, and_self, decide_true, decide_false, reduceIte, Nat.reduceEqDiff, Nat.reduceLeDiff, Nat.reduceAdd, Nat.reduceLT, optS_dgc, optS_dg, optS_isV, optS_clen]
    refine hK24 _ ?_
    simp only [keep_mk, only_cons, only_nil, look_cons, look_nil, reduceIte, Nat.reduceEqDiff, Nat.reduceAdd]
    refine wp_ret' ?_
    exact fin_cell_tmp rfl rfl rfl rfl rfl rfl

end Go.Proofs.Ytmdpemgiidjbcaa.Cd

set_option linter.unusedSimpArgs false
set_option linter.unusedVariables false
set_option maxRecDepth 10000
set_option maxHeartbeats 1000000
namespace Go.Proofs.Ytmdpemgiidjbcaa.Cd
open Go.Am
theorem c28 : ∀ (n : Nat) (l : List TStmt) (i : Nat), countAll l < n → n < 1000000000 → i + countAll l < 1000000000 → ∀ h, CallS Try.prog 28 [.sl 7 (stmtVs l), .int .i64 i] h (.ret (.xsl 8 (itemsV (rowsAll l (i + countAll l - 1) i)))) h := by
  intro n
  induction n with
  | zero => intro l i h; omega
  | succ n ih =>
  intro l i hl hn hi h
  refine CallS.weak (fun_ok ok28 rfl ?_) (LeL.refl _) (LeT.row _ _)
  show awp _ F28b (AS.mk F28.dep [(0, .sl 7 (stmtVs l)), (1, .int .i64 i)] [] h []) _
  have hln := len_le_count l
  refine wp_r fun K1 hK1 hP1 => ?_
  -- F28r0
  simp (config := { decide := true }) only [F28r0, eng, engc, engt, true_and, and_true, eq_self, and_self, decide_true, decide_false, reduceIte, Nat.reduceEqDiff, Nat.reduceLeDiff, Nat.reduceAdd, Nat.reduceLT, asX_rowV, rowV_isV, itemsV_len, rowsAll_len]
  refine hK1 _ ?_
  simp only [keep_mk, only_cons, only_nil, look_cons, look_nil, reduceIte, Nat.reduceEqDiff, Nat.reduceAdd]
  refine wp_r fun K2 hK2 hP2 => ?_
  -- F28r1
  simp (config := { decide := true }) only [F28r1, eng, engc, engt, true_and, and_true, eq_self, and_self, decide_true, decide_false, reduceIte, Nat.reduceEqDiff, Nat.reduceLeDiff, Nat.reduceAdd, Nat.reduceLT, asX_rowV, rowV_isV, itemsV_len, rowsAll_len]
  refine hK2 _ ?_
  simp only [keep_mk, only_cons, only_nil, look_cons, look_nil, reduceIte, Nat.reduceEqDiff, Nat.reduceAdd]
  refine wp_r fun K3 hK3 hP3 => ?_
  -- F28r2
  simp (config := { decide := true }) only [F28r2, eng, engc, engt, true_and, and_true, eq_self, and_self, decide_true, decide_false, reduceIte, Nat.reduceEqDiff, Nat.reduceLeDiff, Nat.reduceAdd, Nat.reduceLT, asX_rowV, rowV_isV, itemsV_len, rowsAll_len]
  try simp (disch := omega) only [wrap_id, engd, engt, itemsV_len, rowsAll_len]
  refine WCall.ret (c30 (n + 1) _ hl (by omega) h) rfl ?_
  simp (config := { decide := true }) only [eng, engc, engt, true_and, and_true, eq_self, and_self, decide_true, decide_false, reduceIte, Nat.reduceEqDiff, Nat.reduceLeDiff, Nat.reduceAdd, Nat.reduceLT, asX_rowV, rowV_isV, itemsV_len, rowsAll_len]
  try simp (disch := omega) only [wrap_id, engd, engt, itemsV_len, rowsAll_len]
  try simp (disch := omega) only [wrap_id, engd, engt, itemsV_len, rowsAll_len]
  refine hK3 _ ?_
  simp only [keep_mk, only_cons, only_nil, look_cons, look_nil, reduceIte, Nat.reduceEqDiff, Nat.reduceAdd]
  refine wp_seq' fun K4 hK4 hX4 => ?_
  refine wp_r fun K5 hK5 hP5 => ?_
  -- F28r3
  simp (config := { decide := true }) only [F28r3, eng, engc, engt, true_and, and_true, eq_self, and_self, decide_true, decide_false, reduceIte, Nat.reduceEqDiff, Nat.reduceLeDiff, Nat.reduceAdd, Nat.reduceLT, asX_rowV, rowV_isV, itemsV_len, rowsAll_len]
  refine hK5 _ ?_
  simp only [keep_mk, only_cons, only_nil, look_cons, look_nil, reduceIte, Nat.reduceEqDiff, Nat.reduceAdd]
  refine wp_blk' fun K6 hB6 hE6 hR6 hP6 => ?_
  refine wp_loop' (fun (k : Nat) s => k ≤ l.length ∧ s = AS.mk [] [(0, .sl 7 (stmtVs l)), (1, .int .i64 (i + countAll (l.take k))), (5, rowV 8 (itemsV (rowsAll (l.take k) (i + countAll l - 1) i))), (6, .int .i64 (i + countAll l - 1)), (7, .int .i64 k)] [] h []) (fun k => l.length - k) (0) ⟨Nat.zero_le _, rfl⟩ ?_
  rintro k s ⟨hk, rfl⟩
  refine ⟨_, Weak.refl _, fun K7 hN7 hX7 => ?_⟩
  refine wp_seq' fun K8 hK8 hX8 => ?_
  refine wp_r fun K9 hK9 hP9 => ?_
  -- F28r4
  simp (config := { decide := true }) only [F28r4, eng, engc, engt, true_and, and_true, eq_self, and_self, decide_true, decide_false, reduceIte, Nat.reduceEqDiff, Nat.reduceLeDiff, Nat.reduceAdd, Nat.reduceLT, asX_rowV, rowV_isV, itemsV_len, rowsAll_len]
  refine hK9 _ ?_
  simp only [keep_mk, only_cons, only_nil, look_cons, look_nil, reduceIte, Nat.reduceEqDiff, Nat.reduceAdd]
  refine wp_cond' rfl (fun hc => ?_) (fun hc => ?_)
  · skip
    simp only [decide_eq_true_eq, decide_eq_false_iff_not] at hc
    obtain ⟨x, hx⟩ := get_some (l := l) (k := k) (by omega)
    have hq := countAll_take hx
    have hle := countAll_le l (k + 1)
    have hce := TStmt.count_eq x
    refine wp_skip' ?_
    refine hK8 _ ?_
    refine wp_seq' fun K10 hK10 hX10 => ?_
    refine wp_blk' fun K11 hB11 hE11 hR11 hP11 => ?_
    refine wp_r fun K12 hK12 hP12 => ?_
    -- F28r5
    simp (config := { decide := true }) only [F28r5, eng, engc, engt, true_and, and_true, eq_self, and_self, decide_true, decide_false, reduceIte, Nat.reduceEqDiff, Nat.reduceLeDiff, Nat.reduceAdd, Nat.reduceLT, asX_rowV, rowV_isV, itemsV_len, rowsAll_len, hx]
    try simp (disch := omega) only [wrap_id, engd, engt, itemsV_len, rowsAll_len]
    rw [if_pos (by (try simp only [List.length_append, itemsV_len, rowsAll_len, List.length_cons, List.length_nil]); omega)]
    simp (config := { decide := true }) only [eng, engc, engt, true_and, and_true, eq_self, and_self, decide_true, decide_false, reduceIte, Nat.reduceEqDiff, Nat.reduceLeDiff, Nat.reduceAdd, Nat.reduceLT, asX_rowV, rowV_isV, itemsV_len, rowsAll_len, hx]
    refine hK12 _ ?_
    simp only [keep_mk, only_cons, only_nil, look_cons, look_nil, reduceIte, Nat.reduceEqDiff, Nat.reduceAdd]
    refine wp_r fun K13 hK13 hP13 => ?_
    -- F28r6
    simp (config := { decide := true }) only [F28r6, eng, engc, engt, true_and, and_true, eq_self, and_self, decide_true, decide_false, reduceIte, Nat.reduceEqDiff, Nat.reduceLeDiff, Nat.reduceAdd, Nat.reduceLT, asX_rowV, rowV_isV, itemsV_len, rowsAll_len, hx]
    try simp (disch := omega) only [wrap_id, engd, engt, itemsV_len, rowsAll_len]
    rw [show (i : Int) + (countAll (l.take k) : Int) + 1 = ((i + countAll (l.take k) + 1 : Nat) : Int) by omega]
    refine WCall.ret (ih x.body (i + countAll (l.take k) + 1) (by omega) (by omega) (by omega) h) rfl ?_
    simp (config := { decide := true }) only [eng, engc, engt, true_and, and_true, eq_self, and_self, decide_true, decide_false, reduceIte, Nat.reduceEqDiff, Nat.reduceLeDiff, Nat.reduceAdd, Nat.reduceLT, asX_rowV, rowV_isV, itemsV_len, rowsAll_len, hx]
    try simp (disch := omega) only [wrap_id, engd, engt, itemsV_len, rowsAll_len]
    try simp (disch := omega) only [wrap_id, engd, engt, itemsV_len, rowsAll_len]
    refine hK13 _ ?_
    simp only [keep_mk, only_cons, only_nil, look_cons, look_nil, reduceIte, Nat.reduceEqDiff, Nat.reduceAdd]
    refine wp_r fun K14 hK14 hP14 => ?_
    -- F28r7
    simp (config := { decide := true }) only [F28r7, eng, engc, engt, true_and, and_true, eq_self, and_self, decide_true, decide_false, reduceIte, Nat.reduceEqDiff, Nat.reduceLeDiff, Nat.reduceAdd, Nat.reduceLT, asX_rowV, rowV_isV, itemsV_len, rowsAll_len, hx]
    try simp (disch := omega) only [wrap_id, engd, engt, itemsV_len, rowsAll_len]
    rw [show (i : Int) + (countAll (l.take k) : Int) + 1 + (countAll x.body : Int) = ((i + countAll (l.take k) + 1 + countAll x.body : Nat) : Int) by omega]
    refine WCall.ret (ih x.els (i + countAll (l.take k) + 1 + countAll x.body) (by omega) (by omega) (by omega) h) rfl ?_
    simp (config := { decide := true }) only [eng, engc, engt, true_and, and_true, eq_self, and_self, decide_true, decide_false, reduceIte, Nat.reduceEqDiff, Nat.reduceLeDiff, Nat.reduceAdd, Nat.reduceLT, asX_rowV, rowV_isV, itemsV_len, rowsAll_len, hx]
    try simp (disch := omega) only [wrap_id, engd, engt, itemsV_len, rowsAll_len]
    try simp (disch := omega) only [wrap_id, engd, engt, itemsV_len, rowsAll_len]
    refine hK14 _ ?_
    simp only [keep_mk, only_cons, only_nil, look_cons, look_nil, reduceIte, Nat.reduceEqDiff, Nat.reduceAdd]
    refine wp_r fun K15 hK15 hP15 => ?_
    -- F28r8
    simp (config := { decide := true }) only [F28r8, eng, engc, engt, true_and, and_true, eq_self, and_self, decide_true, decide_false, reduceIte, Nat.reduceEqDiff, Nat.reduceLeDiff, Nat.reduceAdd, Nat.reduceLT, asX_rowV, rowV_isV, itemsV_len, rowsAll_len, hx]
    try simp (disch := omega) only [wrap_id, engd, engt, itemsV_len, rowsAll_len]
    rw [if_pos (by (try simp only [List.length_append, itemsV_len, rowsAll_len, List.length_cons, List.length_nil]); omega)]
    simp (config := { decide := true }) only [eng, engc, engt, true_and, and_true, eq_self, and_self, decide_true, decide_false, reduceIte, Nat.reduceEqDiff, Nat.reduceLeDiff, Nat.reduceAdd, Nat.reduceLT, asX_rowV, rowV_isV, itemsV_len, rowsAll_len, hx]
    try simp (disch := omega) only [wrap_id, engd, engt, itemsV_len, rowsAll_len]
    rw [if_pos (by (try simp only [List.length_append, itemsV_len, rowsAll_len, List.length_cons, List.length_nil]); omega)]
    simp (config := { decide := true }) only [eng, engc, engt, true_and, and_true, eq_self, and_self, decide_true, decide_false, reduceIte, Nat.reduceEqDiff, Nat.reduceLeDiff, Nat.reduceAdd, Nat.reduceLT, asX_rowV, rowV_isV, itemsV_len, rowsAll_len, hx]
    refine hK15 _ ?_
    simp only [keep_mk, only_cons, only_nil, look_cons, look_nil, reduceIte, Nat.reduceEqDiff, Nat.reduceAdd]
    refine wp_r' fun K16 hK16 hP16 => ?_
    -- F28r9
    simp (config := { decide := true }) only [F28r9, eng, engc, engt, true_and, and_true, eq_self, and_self, decide_true, decide_false, reduceIte, Nat.reduceEqDiff, Nat.reduceLeDiff, Nat.reduceAdd, Nat.reduceLT, asX_rowV, rowV_isV, itemsV_len, rowsAll_len, hx]
    try simp (disch := omega) only [wrap_id, engd, engt, itemsV_len, rowsAll_len]
    refine hK16 _ ?_
    simp only [keep_mk, only_cons, only_nil, look_cons, look_nil, reduceIte, Nat.reduceEqDiff, Nat.reduceAdd]
    refine (hB11 _ ?_).1
    refine hK10 _ ?_
    refine wp_r' fun K17 hK17 hP17 => ?_
    -- F28r10
    simp (config := { decide := true }) only [F28r10, eng, engc, engt, true_and, and_true, eq_self, and_self, decide_true, decide_false, reduceIte, Nat.reduceEqDiff, Nat.reduceLeDiff, Nat.reduceAdd, Nat.reduceLT, asX_rowV, rowV_isV, itemsV_len, rowsAll_len, hx]
    try simp (disch := omega) only [wrap_id, engd, engt, itemsV_len, rowsAll_len]
    refine hK17 _ ?_
    simp only [keep_mk, only_cons, only_nil, look_cons, look_nil, reduceIte, Nat.reduceEqDiff, Nat.reduceAdd]
    refine hN7 (k + 1) _ (by omega) ⟨by omega, ?_⟩
    have e5 : rowV 8 (itemsV (rowsAll (l.take (k + 1)) (i + countAll l - 1) i)) = .xsl 8 (itemsV (rowsAll (l.take k) (i + countAll l - 1) i) ++ [itemV (x, i + countAll l - 1)] ++ itemsV (rowsAll x.body (i + countAll (l.take k) + 1 + countAll x.body - 1) (i + countAll (l.take k) + 1)) ++ itemsV (rowsAll x.els (i + countAll (l.take k) + 1 + countAll x.body + countAll x.els - 1) (i + countAll (l.take k) + 1 + countAll x.body))) := by
      rw [rowsAll_take hx, TStmt.rows_eq, itemsV_app, rowV_app _ _ _ (by simp [itemsV])]
      simp [itemsV]
    rw [e5]
    simp only [hq, hce, itemV, Int.natCast_add, Int.natCast_one, Int.add_assoc]
  · skip
    simp only [decide_eq_true_eq, decide_eq_false_iff_not] at hc
    have hk2 : k = l.length := by omega
    subst hk2
    simp only [List.take_length]
    refine wp_exit' ?_
    refine hX8 _ _ (by simp) ?_
    refine hX7 _ _ (by simp) ?_
    refine (hB6 _ ?_).2
    refine hK4 _ ?_
    refine wp_r fun K18 hK18 hP18 => ?_
    -- F28r11
    simp (config := { decide := true }) only [F28r11, eng, engc, engt, true_and, and_true, eq_self, and_self, decide_true, decide_false, reduceIte, Nat.reduceEqDiff, Nat.reduceLeDiff, Nat.reduceAdd, Nat.reduceLT, asX_rowV, rowV_isV, itemsV_len, rowsAll_len]
    refine hK18 _ ?_
    simp only [keep_mk, only_cons, only_nil, look_cons, look_nil, reduceIte, Nat.reduceEqDiff, Nat.reduceAdd]
    refine wp_ret' ?_
    exact fin_ret1 rfl (rowV_isV _ _)

end Go.Proofs.Ytmdpemgiidjbcaa.Cd

set_option linter.unusedSimpArgs false
set_option linter.unusedVariables false
set_option maxRecDepth 10000
set_option maxHeartbeats 1000000
namespace Go.Proofs.Ytmdpemgiidjbcaa.Cd
open Go.Am
theorem c18 (p : TProc) (hp : countAll p.body < 3000000000000000000) : ∀ h, CallS Try.prog 18 [procV p] h (.ret (.int .i64 (countAll p.body))) h := by
  intro h
  refine fun_ok ok18 rfl ?_
  show awp _ F18b (AS.mk [(1, [1, 3])] [(0, procV p)] [] h []) _
  refine wp_r fun K1 hK1 hP1 => ?_
  -- F18r0
  simp (config := { decide := true }) only [F18r0, eng, engc, engt, AOp.mem, true_and, and_true, eq_self, and_self, decide_true, decide_false, reduceIte, Nat.reduceEqDiff, Nat.reduceLeDiff, Nat.reduceAdd, Nat.reduceLT]
  refine hK1 _ ?_
  simp only [keep_mk, only_cons, only_nil, look_cons, look_nil, reduceIte, Nat.reduceEqDiff, Nat.reduceAdd]
  refine wp_r fun K2 hK2 hP2 => ?_
  -- F18r1
  simp (config := { decide := true }) only [F18r1, eng, engc, engt, AOp.mem, true_and, and_true, eq_self, and_self, decide_true, decide_false, reduceIte, Nat.reduceEqDiff, Nat.reduceLeDiff, Nat.reduceAdd, Nat.reduceLT]
  try simp (disch := omega) only [wrap_id, engd, engt]
  refine WCall.ret (c25 _ p.body (Nat.lt_succ_self _) (by omega) h) rfl ?_
  simp (config := { decide := true }) only [eng, engc, engt, AOp.mem, true_and, and_true, eq_self, and_self, decide_true, decide_false, reduceIte, Nat.reduceEqDiff, Nat.reduceLeDiff, Nat.reduceAdd, Nat.reduceLT]
  try simp (disch := omega) only [wrap_id, engd, engt]
  refine hK2 _ ?_
  simp only [keep_mk, only_cons, only_nil, look_cons, look_nil, reduceIte, Nat.reduceEqDiff, Nat.reduceAdd]
  refine wp_ret' ?_
  exact fin_ret1 rfl rfl

theorem c19 (p : TProc) (hp : countAll p.body < 3000000000000000000) : ∀ h, CallS Try.prog 19 [procV p] h (.ret (.int .i64 (countAll p.body))) h := by
  intro h
  refine fun_ok ok19 rfl ?_
  show awp _ F19b (AS.mk [(1, [1, 3])] [(0, procV p)] [] h []) _
  refine wp_r fun K1 hK1 hP1 => ?_
  -- F19r0
  simp (config := { decide := true }) only [F19r0, eng, engc, engt, AOp.mem, true_and, and_true, eq_self, and_self, decide_true, decide_false, reduceIte, Nat.reduceEqDiff, Nat.reduceLeDiff, Nat.reduceAdd, Nat.reduceLT]
  refine hK1 _ ?_
  simp only [keep_mk, only_cons, only_nil, look_cons, look_nil, reduceIte, Nat.reduceEqDiff, Nat.reduceAdd]
  refine wp_r fun K2 hK2 hP2 => ?_
  -- F19r1
  simp (config := { decide := true }) only [F19r1, eng, engc, engt, AOp.mem, true_and, and_true, eq_self, and_self, decide_true, decide_false, reduceIte, Nat.reduceEqDiff, Nat.reduceLeDiff, Nat.reduceAdd, Nat.reduceLT]
  try simp (disch := omega) only [wrap_id, engd, engt]
  refine WCall.ret (c30 _ p.body (Nat.lt_succ_self _) (by omega) h) rfl ?_
  simp (config := { decide := true }) only [eng, engc, engt, AOp.mem, true_and, and_true, eq_self, and_self, decide_true, decide_false, reduceIte, Nat.reduceEqDiff, Nat.reduceLeDiff, Nat.reduceAdd, Nat.reduceLT]
  try simp (disch := omega) only [wrap_id, engd, engt]
  refine hK2 _ ?_
  simp only [keep_mk, only_cons, only_nil, look_cons, look_nil, reduceIte, Nat.reduceEqDiff, Nat.reduceAdd]
  refine wp_ret' ?_
  exact fin_ret1 rfl rfl

/-- The statement of a mark. -/
def stmtAt (l : List TStmt) (m : Int) : Option TStmt := if m < 1 then none else (flatAll l)[m.toNat - 1]?

theorem c15 (p : TProc) (m : Int) (hp : countAll p.body < 3000000000000000000) (hm : m ≤ 9223372036854775807) : ∀ h, CallS Try.prog 15 [procV p, .int .i64 m] h (.ret (.tup [optS (stmtAt p.body m), .bool (stmtAt p.body m).isSome])) h := by
  intro h
  refine fun_ok ok15 rfl ?_
  show awp _ F15b (AS.mk [(2, [2, 9]), (4, [4])] [(0, procV p), (1, .int .i64 m)] [] h []) _
  unfold stmtAt
  generalize hr : (if m < 1 then none else (flatAll p.body)[m.toNat - 1]?) = r
  refine wp_r fun K1 hK1 hP1 => ?_
  -- F15r0
  simp (config := { decide := true }) only [F15r0, eng, engc, engt, AOp.mem, true_and, and_true, eq_self, and_self, decide_true, decide_false, reduceIte, Nat.reduceEqDiff, Nat.reduceLeDiff, Nat.reduceAdd, Nat.reduceLT, optS_dgc, optS_dg, optS_isV, optS_clen]
  refine hK1 _ ?_
  simp only [keep_mk, only_cons, only_nil, look_cons, look_nil, reduceIte, Nat.reduceEqDiff, Nat.reduceAdd]
  refine wp_seq' fun K2 hK2 hX2 => ?_
  refine wp_r fun K3 hK3 hP3 => ?_
  -- F15r1
  simp (config := { decide := true }) only [F15r1, eng, engc, engt, AOp.mem, true_and, and_true, eq_self, and_self, decide_true, decide_false, reduceIte, Nat.reduceEqDiff, Nat.reduceLeDiff, Nat.reduceAdd, Nat.reduceLT, optS_dgc, optS_dg, optS_isV, optS_clen]
  refine hK3 _ ?_
  simp only [keep_mk, only_cons, only_nil, look_cons, look_nil, reduceIte, Nat.reduceEqDiff, Nat.reduceAdd]
  refine wp_cond' rfl (fun hc => ?_) (fun hc => ?_)
  · skip
    simp only [decide_eq_true_eq, decide_eq_false_iff_not] at hc
    rw [if_pos hc] at hr
    subst hr
    refine wp_r fun K4 hK4 hP4 => ?_
    -- F15r2
    simp (config := { decide := true }) only [F15r2, eng, engc, engt, AOp.mem, true_and, and_true, eq_self, and_self, decide_true, decide_false, reduceIte, Nat.reduceEqDiff, Nat.reduceLeDiff, Nat.reduceAdd, Nat.reduceLT, optS_dgc, optS_dg, optS_isV, optS_clen]
    refine hK4 _ ?_
    simp only [keep_mk, only_cons, only_nil, look_cons, look_nil, reduceIte, Nat.reduceEqDiff, Nat.reduceAdd]
    refine wp_ret' ?_
    refine hX2 _ _ (by simp) ?_
    exact fin_cell_tmp rfl rfl rfl rfl rfl rfl
  · skip
    simp only [decide_eq_true_eq, decide_eq_false_iff_not] at hc
    rw [if_neg hc] at hr
    obtain ⟨k, rfl⟩ : ∃ k : Nat, m = k := ⟨m.toNat, by omega⟩
    simp only [Int.toNat_natCast] at hr
    subst hr
    refine wp_skip' ?_
    refine hK2 _ ?_
    refine wp_r fun K5 hK5 hP5 => ?_
    -- F15r3
    simp (config := { decide := true }) only [F15r3, eng, engc, engt, AOp.mem, true_and, and_true, eq_self, and_self, decide_true, decide_false, reduceIte, Nat.reduceEqDiff, Nat.reduceLeDiff, Nat.reduceAdd, Nat.reduceLT, optS_dgc, optS_dg, optS_isV, optS_clen]
    try simp (disch := omega) only [wrap_id, engd, engt, optS_dgc, optS_dg, optS_isV, optS_clen]
    skip
    refine WCall.ret (c27 _ p.body k (Nat.lt_succ_self _) (by omega) (by omega) (by omega) h) rfl ?_
    simp (config := { decide := true }) only [eng, engc, engt, AOp.mem, true_and, and_true, eq_self, and_self, decide_true, decide_false, reduceIte, Nat.reduceEqDiff, Nat.reduceLeDiff, Nat.reduceAdd, Nat.reduceLT, optS_dgc, optS_dg, optS_isV, optS_clen]
    try simp (disch := omega) only [wrap_id, engd, engt, optS_dgc, optS_dg, optS_isV, optS_clen]
    refine hK5 _ ?_
    simp only [keep_mk, only_cons, only_nil, look_cons, look_nil, reduceIte, Nat.reduceEqDiff, Nat.reduceAdd]
    refine wp_ret' ?_
    exact fin_cell_tmp rfl rfl (optS_win _) (optS_agg _) rfl rfl

theorem c16 (p : TProc) (m : Int) (hp : countAll p.body < 900000000) (hm : m ≤ 9223372036854775807) (hm2 : -9223372036854775808 ≤ m) : ∀ h, CallS Try.prog 16 [procV p, .int .i64 m] h (.ret (.tup [optS (stmtAt p.body m), .bool (stmtAt p.body m).isSome])) h := by
  intro h
  refine fun_ok ok16 rfl ?_
  show awp _ F16b (AS.mk [(2, [2, 7]), (4, [4])] [(0, procV p), (1, .int .i64 m)] [] h []) _
  unfold stmtAt
  generalize hr : (if m < 1 then none else (flatAll p.body)[m.toNat - 1]?) = r
  have hfl := flatAll_len p.body
  refine wp_r fun K1 hK1 hP1 => ?_
  -- F16r0
  simp (config := { decide := true }) only [F16r0, eng, engc, engt, AOp.mem, true_and, and_true, eq_self, and_self, decide_true, decide_false, reduceIte, Nat.reduceEqDiff, Nat.reduceLeDiff, Nat.reduceAdd, Nat.reduceLT, optS_dgc, optS_dg, optS_isV, optS_clen, itemsV_len, rowsAll_len]
  refine hK1 _ ?_
  simp only [keep_mk, only_cons, only_nil, look_cons, look_nil, reduceIte, Nat.reduceEqDiff, Nat.reduceAdd]
  refine wp_r fun K2 hK2 hP2 => ?_
  -- F16r1
  simp (config := { decide := true }) only [F16r1, eng, engc, engt, AOp.mem, true_and, and_true, eq_self, and_self, decide_true, decide_false, reduceIte, Nat.reduceEqDiff, Nat.reduceLeDiff, Nat.reduceAdd, Nat.reduceLT, optS_dgc, optS_dg, optS_isV, optS_clen, itemsV_len, rowsAll_len]
  try simp (disch := omega) only [wrap_id, engd, engt, optS_dgc, optS_dg, optS_isV, optS_clen]
  refine WCall.ret (c28 _ p.body 1 (Nat.lt_succ_self _) (by omega) (by omega) h) rfl ?_
  simp (config := { decide := true }) only [eng, engc, engt, AOp.mem, true_and, and_true, eq_self, and_self, decide_true, decide_false, reduceIte, Nat.reduceEqDiff, Nat.reduceLeDiff, Nat.reduceAdd, Nat.reduceLT, optS_dgc, optS_dg, optS_isV, optS_clen, itemsV_len, rowsAll_len]
  try simp (disch := omega) only [wrap_id, engd, engt, optS_dgc, optS_dg, optS_isV, optS_clen]
  refine hK2 _ ?_
  simp only [keep_mk, only_cons, only_nil, look_cons, look_nil, reduceIte, Nat.reduceEqDiff, Nat.reduceAdd]
  refine wp_seq' fun K3 hK3 hX3 => ?_
  refine wp_r fun K4 hK4 hP4 => ?_
  -- F16r2
  obtain ⟨b0, hb0⟩ : ∃ b0 : Bool, b0 = (decide (m < 1) || decide ((countAll p.body : Int) < m)) := ⟨_, rfl⟩
  have J : ∀ s1 : AS, AS.keep s1 [1, 4, 6, 17] [4] = AS.mk [(2, [2, 7]), (4, [4])] [(1, .int .i64 m), (4, .lptr 4 0), (6, .xsl 8 (itemsV (rowsAll p.body (1 + countAll p.body - 1) 1))), (17, .bool b0)] [(4, zstmt.cells)] h [] → K4 .norm s1 := by
    intro s1 hs1
    refine hK4 _ ?_
    rw [hs1]
    subst hb0
    refine wp_cond' rfl (fun hc => ?_) (fun hc => ?_)
    · skip
      simp only [Bool.or_eq_true, Bool.or_eq_false_iff, decide_eq_true_eq, decide_eq_false_iff_not] at hc
      have hn : (if m < 1 then none else (flatAll p.body)[m.toNat - 1]?) = none := by
        split
        · rfl
        · rw [List.getElem?_eq_none]; omega
      rw [hn] at hr
      subst hr
      refine wp_r fun K5 hK5 hP5 => ?_
      -- F16r3
      simp (config := { decide := true }) only [F16r3, eng, engc, engt, AOp.mem, true_and, and_true, eq_self, and_self, decide_true, decide_false, reduceIte, Nat.reduceEqDiff, Nat.reduceLeDiff, Nat.reduceAdd, Nat.reduceLT, optS_dgc, optS_dg, optS_isV, optS_clen, itemsV_len, rowsAll_len]
      refine hK5 _ ?_
      simp only [keep_mk, only_cons, only_nil, look_cons, look_nil, reduceIte, Nat.reduceEqDiff, Nat.reduceAdd]
      refine wp_ret' ?_
      refine hX3 _ _ (by simp) ?_
      exact fin_cell_tmp rfl rfl rfl rfl rfl rfl
    · skip
      simp only [Bool.or_eq_true, Bool.or_eq_false_iff, decide_eq_true_eq, decide_eq_false_iff_not] at hc
      rw [if_neg hc.1] at hr
      obtain ⟨k, rfl⟩ : ∃ k : Nat, m = k := ⟨m.toNat, by omega⟩
      obtain ⟨x, hx⟩ := get_some (l := rowsAll p.body (1 + countAll p.body - 1) 1) (k := k - 1) (by rw [rowsAll_len]; omega)
      have hfx : (flatAll p.body)[k - 1]? = some x.1 := by
        rw [← flat_rowsAll p.body (1 + countAll p.body - 1) 1, List.getElem?_map, hx]; rfl
      simp only [Int.toNat_natCast] at hr
      rw [hfx] at hr
      subst hr
      have hk1 : ((k : Int) - 1).toNat = k - 1 := by omega
      have hk0 : decide (0 ≤ (k : Int) - 1) = true := by simp; omega
      refine wp_skip' ?_
      refine hK3 _ ?_
      refine wp_r fun K6 hK6 hP6 => ?_
      -- F16r4
      simp (config := { decide := true }) only [F16r4, eng, engc, engt, AOp.mem, true_and, and_true, eq_self, and_self, decide_true, decide_false, reduceIte, Nat.reduceEqDiff, Nat.reduceLeDiff, Nat.reduceAdd, Nat.reduceLT, optS_dgc, optS_dg, optS_isV, optS_clen, itemsV_len, rowsAll_len, hk1, hk0, itemsV_get, hx, itemV_cells, zstmt]
      rw [wrap_id (n := (k : Int) - 1) (by omega)]
      simp (config := { decide := true }) only [eng, engc, engt, AOp.mem, true_and, and_true, eq_self, and_self, decide_true, decide_false, reduceIte, Nat.reduceEqDiff, Nat.reduceLeDiff, Nat.reduceAdd, Nat.reduceLT, optS_dgc, optS_dg, optS_isV, optS_clen, itemsV_len, rowsAll_len, hk1, hk0, itemsV_get, hx, itemV_cells, zstmt]
      refine hK6 _ ?_
      simp only [keep_mk, only_cons, only_nil, look_cons, look_nil, reduceIte, Nat.reduceEqDiff, Nat.reduceAdd]
      refine wp_ret' ?_
      exact fin_cell_tmp rfl rfl rfl (by obtain ⟨⟨⟩, _⟩ := x; rfl) rfl rfl
  by_cases h1 : m < 1 <;> by_cases h2 : (countAll p.body : Int) < m <;> (
    simp (config := { decide := true }) only [F16r2, eng, engc, engt, AOp.mem, true_and, and_true, eq_self, and_self, decide_true, decide_false, reduceIte, Nat.reduceEqDiff, Nat.reduceLeDiff, Nat.reduceAdd, Nat.reduceLT, optS_dgc, optS_dg, optS_isV, optS_clen, itemsV_len, rowsAll_len, h1, h2]
    try simp (disch := omega) only [wrap_id, engd, engt, optS_dgc, optS_dg, optS_isV, optS_clen]
    refine J _ ?_
    subst hb0
    simp only [keep_mk, only_cons, only_nil, look_cons, look_nil, reduceIte, Nat.reduceEqDiff, h1, h2, decide_true, decide_false, Bool.true_and, Bool.false_and, Bool.true_or, Bool.false_or]
    try rfl)

end Go.Proofs.Ytmdpemgiidjbcaa.Cd

set_option linter.unusedSimpArgs false
set_option linter.unusedVariables false
set_option maxRecDepth 10000
namespace Go.Proofs.Ytmdpemgiidjbcaa.Cd
open Go.Am
theorem c44 : ∀ (n : Nat) (x : TExpr), x.count < n → n < 4000000000000000000 → ∀ (most : Int) h, CallS Try.prog 44 [exprV x, .int .i64 most] h (.ret (.int .i64 (sizeE most x))) h := by
  intro n
  induction n with
  | zero => intro x h; omega
  | succ n ih =>
  intro x hl hn most h
  refine fun_ok ok44 rfl ?_
  show awp _ F44b (AS.mk F44.dep [(0, exprV x), (1, .int .i64 most)] [] h []) _
  simp only [F44]
  generalize hr : sizeE most x = r
  have hln := len_le_ecount x.l
  have hce := TExpr.count_eq x
  refine wp_r fun K1 hK1 hP1 => ?_
  -- F44r0
  simp (config := { decide := true }) only [F44r0, eng, engc, engt, true_and, and_true, eq_self, and_self, decide_true, decide_false, reduceIte, Nat.reduceEqDiff, Nat.reduceLeDiff, Nat.reduceAdd, Nat.reduceLT, abin_quo, Int.reduceEq, if_false]
  refine hK1 _ ?_
  simp only [keep_mk, only_cons, only_nil, look_cons, look_nil, reduceIte, Nat.reduceEqDiff, Nat.reduceAdd]
  refine wp_r fun K2 hK2 hP2 => ?_
  -- F44r1
  simp (config := { decide := true }) only [F44r1, eng, engc, engt, true_and, and_true, eq_self, and_self, decide_true, decide_false, reduceIte, Nat.reduceEqDiff, Nat.reduceLeDiff, Nat.reduceAdd, Nat.reduceLT, abin_quo, Int.reduceEq, if_false]
  refine hK2 _ ?_
  simp only [keep_mk, only_cons, only_nil, look_cons, look_nil, reduceIte, Nat.reduceEqDiff, Nat.reduceAdd]
  refine wp_seq' fun K3 hK3 hX3 => ?_
  refine wp_r fun K4 hK4 hP4 => ?_
  -- F44r2
  simp (config := { decide := true }) only [F44r2, eng, engc, engt, true_and, and_true, eq_self, and_self, decide_true, decide_false, reduceIte, Nat.reduceEqDiff, Nat.reduceLeDiff, Nat.reduceAdd, Nat.reduceLT, abin_quo, Int.reduceEq, if_false]
  refine hK4 _ ?_
  simp only [keep_mk, only_cons, only_nil, look_cons, look_nil, reduceIte, Nat.reduceEqDiff, Nat.reduceAdd]
  refine wp_blk' fun K5 hB5 hE5 hR5 hP5 => ?_
  refine wp_loop' (fun (q : Nat × Int) s => q.1 ≤ x.l.length ∧ sizeEs most q.2 (x.l.drop q.1) = r ∧ s = AS.mk [(2, [2, 7, 13, 25])] [(1, .int .i64 most), (2, .lptr 2 0), (5, .int .i64 q.2), (6, .int .i64 q.1)] [(2, [.int .i64 x.kind, .str x.name, .int .i64 x.num, .sl 4 (exprVs x.l)])] h []) (fun q => x.l.length - q.1) ((0, _)) ⟨Nat.zero_le _, by rw [← hr, sizeE_eq]; rfl, rfl⟩ ?_
  rintro ⟨k, a⟩ s ⟨hk, hr, rfl⟩
  simp only at hk hr ⊢
  refine ⟨_, Weak.refl _, fun K6 hN6 hX6 => ?_⟩
  refine wp_seq' fun K7 hK7 hX7 => ?_
  refine wp_r fun K8 hK8 hP8 => ?_
  -- F44r3
  obtain ⟨b0, hb0⟩ : ∃ b0 : Bool, b0 = (decide ((k : Int) < (x.l.length : Int)) && decide (a ≤ most)) := ⟨_, rfl⟩
  have J : ∀ s1 : AS, AS.keep s1 [1, 2, 5, 6, 21] [2] = AS.mk [(2, [2, 7, 13, 25])] [(1, .int .i64 most), (2, .lptr 2 0), (5, .int .i64 a), (6, .int .i64 k), (21, .bool b0)] [(2, [.int .i64 x.kind, .str x.name, .int .i64 x.num, .sl 4 (exprVs x.l)])] h [] → K8 .norm s1 := by
    intro s1 hs1
    refine hK8 _ ?_
    rw [hs1]
    subst hb0
    refine wp_cond' rfl (fun hc => ?_) (fun hc => ?_)
    · skip
      simp only [Bool.and_eq_true, Bool.and_eq_false_iff, decide_eq_true_eq, decide_eq_false_iff_not] at hc
      obtain ⟨y, hx⟩ := get_some (l := x.l) (k := k) (by omega)
      have hye := ecount_get hx
      rw [sizeEs_step hx hc.2] at hr
      refine wp_skip' ?_
      refine hK7 _ ?_
      refine wp_seq' fun K9 hK9 hX9 => ?_
      refine wp_blk' fun K10 hB10 hE10 hR10 hP10 => ?_
      refine wp_r' fun K11 hK11 hP11 => ?_
      -- F44r4
      simp (config := { decide := true }) only [F44r4, eng, engc, engt, true_and, and_true, eq_self, and_self, decide_true, decide_false, reduceIte, Nat.reduceEqDiff, Nat.reduceLeDiff, Nat.reduceAdd, Nat.reduceLT, abin_quo, Int.reduceEq, if_false, hx]
      try simp (disch := omega) only [wrap_id, engd, engt]
      refine WCall.ret (ih y (by omega) (by omega) _ h) rfl ?_
      simp (config := { decide := true }) only [eng, engc, engt, true_and, and_true, eq_self, and_self, decide_true, decide_false, reduceIte, Nat.reduceEqDiff, Nat.reduceLeDiff, Nat.reduceAdd, Nat.reduceLT, abin_quo, Int.reduceEq, if_false, hx]
      try simp (disch := omega) only [wrap_id, engd, engt]
      refine hK11 _ ?_
      simp only [keep_mk, only_cons, only_nil, look_cons, look_nil, reduceIte, Nat.reduceEqDiff, Nat.reduceAdd]
      refine (hB10 _ ?_).1
      refine hK9 _ ?_
      refine wp_r' fun K12 hK12 hP12 => ?_
      -- F44r5
      simp (config := { decide := true }) only [F44r5, eng, engc, engt, true_and, and_true, eq_self, and_self, decide_true, decide_false, reduceIte, Nat.reduceEqDiff, Nat.reduceLeDiff, Nat.reduceAdd, Nat.reduceLT, abin_quo, Int.reduceEq, if_false, hx]
      refine hK12 _ ?_
      simp only [keep_mk, only_cons, only_nil, look_cons, look_nil, reduceIte, Nat.reduceEqDiff, Nat.reduceAdd]
      refine hN6 (k + 1, _) _ (by simp only; omega) ⟨by simp only; omega, hr, ?_⟩
      rw [wrap_id (n := (k : Int) + 1) (by omega)]
      rfl
    · skip
      simp only [Bool.and_eq_true, Bool.and_eq_false_iff, decide_eq_true_eq, decide_eq_false_iff_not] at hc
      rw [sizeEs_stop (by omega)] at hr
      subst hr
      refine wp_exit' ?_
      refine hX7 _ _ (by simp) ?_
      refine hX6 _ _ (by simp) ?_
      refine (hB5 _ ?_).2
      refine hK3 _ ?_
      refine wp_r fun K13 hK13 hP13 => ?_
      -- F44r6
      simp (config := { decide := true }) only [F44r6, eng, engc, engt, true_and, and_true, eq_self, and_self, decide_true, decide_false, reduceIte, Nat.reduceEqDiff, Nat.reduceLeDiff, Nat.reduceAdd, Nat.reduceLT, abin_quo, Int.reduceEq, if_false]
      refine hK13 _ ?_
      simp only [keep_mk, only_cons, only_nil, look_cons, look_nil, reduceIte, Nat.reduceEqDiff, Nat.reduceAdd]
      refine wp_ret' ?_
      exact fin_ret1 rfl rfl
  by_cases h1 : (k : Int) < (x.l.length : Int) <;> by_cases h2 : a ≤ most <;> (
    simp (config := { decide := true }) only [F44r3, eng, engc, engt, true_and, and_true, eq_self, and_self, decide_true, decide_false, reduceIte, Nat.reduceEqDiff, Nat.reduceLeDiff, Nat.reduceAdd, Nat.reduceLT, abin_quo, Int.reduceEq, if_false, h1, h2]
    try simp (disch := omega) only [wrap_id, engd, engt]
    refine J _ ?_
    subst hb0
    simp only [keep_mk, only_cons, only_nil, look_cons, look_nil, reduceIte, Nat.reduceEqDiff, h1, h2, decide_true, decide_false, Bool.true_and, Bool.false_and, Bool.true_or, Bool.false_or])

end Go.Proofs.Ytmdpemgiidjbcaa.Cd

set_option linter.unusedSimpArgs false
set_option linter.unusedVariables false
set_option maxRecDepth 10000
set_option maxHeartbeats 4000000
namespace Go.Proofs.Ytmdpemgiidjbcaa.Cd
open Go.Am
theorem c31 : ∀ (n : Nat) (l : List TStmt), countAll l + esAll l < n → n < 4000000000000000000 → ∀ (most : Int) h, CallS Try.prog 31 [.sl 7 (stmtVs l), .int .i64 most] h (.ret (.int .i64 (sizeSs most 0 l))) h := by
  intro n
  induction n with
  | zero => intro x h; omega
  | succ n ih =>
  intro l hl hn most h
  refine fun_ok ok31 rfl ?_
  show awp _ F31b (AS.mk F31.dep [(0, .sl 7 (stmtVs l)), (1, .int .i64 most)] [] h []) _
  generalize hr : sizeSs most 0 l = r
  have hln := len_le_count l
  refine wp_r fun K1 hK1 hP1 => ?_
  -- F31r0
  simp (config := { decide := true }) only [F31r0, eng, engc, engt, true_and, and_true, eq_self, and_self, decide_true, decide_false, reduceIte, Nat.reduceEqDiff, Nat.reduceLeDiff, Nat.reduceAdd, Nat.reduceLT, abin_quo, Int.reduceEq, if_false]
  refine hK1 _ ?_
  simp only [keep_mk, only_cons, only_nil, look_cons, look_nil, reduceIte, Nat.reduceEqDiff, Nat.reduceAdd]
  refine wp_r fun K2 hK2 hP2 => ?_
  -- F31r1
  simp (config := { decide := true }) only [F31r1, eng, engc, engt, true_and, and_true, eq_self, and_self, decide_true, decide_false, reduceIte, Nat.reduceEqDiff, Nat.reduceLeDiff, Nat.reduceAdd, Nat.reduceLT, abin_quo, Int.reduceEq, if_false]
  refine hK2 _ ?_
  simp only [keep_mk, only_cons, only_nil, look_cons, look_nil, reduceIte, Nat.reduceEqDiff, Nat.reduceAdd]
  refine wp_seq' fun K3 hK3 hX3 => ?_
  refine wp_r fun K4 hK4 hP4 => ?_
  -- F31r2
  simp (config := { decide := true }) only [F31r2, eng, engc, engt, true_and, and_true, eq_self, and_self, decide_true, decide_false, reduceIte, Nat.reduceEqDiff, Nat.reduceLeDiff, Nat.reduceAdd, Nat.reduceLT, abin_quo, Int.reduceEq, if_false]
  refine hK4 _ ?_
  simp only [keep_mk, only_cons, only_nil, look_cons, look_nil, reduceIte, Nat.reduceEqDiff, Nat.reduceAdd]
  refine wp_blk' fun K5 hB5 hE5 hR5 hP5 => ?_
  refine wp_loop' (fun (q : Nat × Int) s => q.1 ≤ l.length ∧ sizeSs most q.2 (l.drop q.1) = r ∧ s = AS.mk [] [(0, .sl 7 (stmtVs l)), (1, .int .i64 most), (5, .int .i64 q.2), (6, .int .i64 q.1)] [] h []) (fun q => l.length - q.1) ((0, 0)) ⟨Nat.zero_le _, hr, rfl⟩ ?_
  rintro ⟨k, a⟩ s ⟨hk, hr, rfl⟩
  simp only at hk hr ⊢
  refine ⟨_, Weak.refl _, fun K6 hN6 hX6 => ?_⟩
  refine wp_seq' fun K7 hK7 hX7 => ?_
  refine wp_r fun K8 hK8 hP8 => ?_
  -- F31r3
  obtain ⟨b0, hb0⟩ : ∃ b0 : Bool, b0 = (decide ((k : Int) < (l.length : Int)) && decide (a ≤ most)) := ⟨_, rfl⟩
  have J : ∀ s1 : AS, AS.keep s1 [0, 1, 5, 6, 16] [] = AS.mk [] [(0, .sl 7 (stmtVs l)), (1, .int .i64 most), (5, .int .i64 a), (6, .int .i64 k), (16, .bool b0)] [] h [] → K8 .norm s1 := by
    intro s1 hs1
    refine hK8 _ ?_
    rw [hs1]
    subst hb0
    refine wp_cond' rfl (fun hc => ?_) (fun hc => ?_)
    · skip
      simp only [Bool.and_eq_true, Bool.and_eq_false_iff, decide_eq_true_eq, decide_eq_false_iff_not] at hc
      obtain ⟨x, hx⟩ := get_some (l := l) (k := k) (by omega)
      have hq1 := countAll_get hx
      have hq2 := esAll_get hx
      have hq3 := TStmt.count_eq x
      have hq4 := TStmt.ecount_eq x
      have hq5 := len_le_ecount x.e
      rw [sizeSs_step hx hc.2] at hr
      refine wp_skip' ?_
      refine hK7 _ ?_
      refine wp_seq' fun K9 hK9 hX9 => ?_
      refine wp_blk' fun K10 hB10 hE10 hR10 hP10 => ?_
      refine wp_dr (by kernel_rfl) fun K11 hK11 hP11 => ?_
      -- F31r4
      simp (config := { decide := true }) only [F31r4, eng, engc, engt, true_and, and_true, eq_self, and_self, decide_true, decide_false, reduceIte, Nat.reduceEqDiff, Nat.reduceLeDiff, Nat.reduceAdd, Nat.reduceLT, abin_quo, Int.reduceEq, if_false, hx]
      repeat refine ⟨rfl, ?_⟩
      refine hK11 _ ?_
      simp only [keep_mk, only_cons, only_nil, look_cons, look_nil, reduceIte, Nat.reduceEqDiff, Nat.reduceAdd]
      refine wp_seq' fun K12 hK12 hX12 => ?_
      refine wp_r fun K13 hK13 hP13 => ?_
      -- F31r5
      simp (config := { decide := true }) only [F31r5, eng, engc, engt, true_and, and_true, eq_self, and_self, decide_true, decide_false, reduceIte, Nat.reduceEqDiff, Nat.reduceLeDiff, Nat.reduceAdd, Nat.reduceLT, abin_quo, Int.reduceEq, if_false, hx]
      refine hK13 _ ?_
      simp only [keep_mk, only_cons, only_nil, look_cons, look_nil, reduceIte, Nat.reduceEqDiff, Nat.reduceAdd]
      refine wp_blk' fun K14 hB14 hE14 hR14 hP14 => ?_
      refine wp_loop' (fun (q : Nat × Int) s => q.1 ≤ x.e.length ∧ sizeEs most q.2 (x.e.drop q.1) = sizeEs most (sizeS0 a x) x.e ∧ s = AS.mk [] [(0, .sl 7 (stmtVs l)), (1, .int .i64 most), (5, .int .i64 q.2), (6, .int .i64 k), (7, .int .i64 q.1)] [] h []) (fun q => x.e.length - q.1) ((0, sizeS0 a x)) ⟨Nat.zero_le _, rfl, rfl⟩ ?_
      rintro ⟨j, a2⟩ s ⟨hj, hr2, rfl⟩
      simp only at hj hr2 ⊢
      refine ⟨_, Weak.refl _, fun K15 hN15 hX15 => ?_⟩
      refine wp_seq' fun K16 hK16 hX16 => ?_
      refine wp_r fun K17 hK17 hP17 => ?_
      -- F31r6
      obtain ⟨b0, hb0⟩ : ∃ b0 : Bool, b0 = (decide ((j : Int) < (x.e.length : Int)) && decide (a2 ≤ most)) := ⟨_, rfl⟩
      have J : ∀ s1 : AS, AS.keep s1 [0, 1, 5, 6, 7, 49] [] = AS.mk [] [(0, .sl 7 (stmtVs l)), (1, .int .i64 most), (5, .int .i64 a2), (6, .int .i64 k), (7, .int .i64 j), (49, .bool b0)] [] h [] → K17 .norm s1 := by
        intro s1 hs1
        refine hK17 _ ?_
        rw [hs1]
        subst hb0
        refine wp_cond' rfl (fun hc => ?_) (fun hc => ?_)
        · skip
          simp only [Bool.and_eq_true, Bool.and_eq_false_iff, decide_eq_true_eq, decide_eq_false_iff_not] at hc
          obtain ⟨y, hy⟩ := get_some (l := x.e) (k := j) (by omega)
          have hye := ecount_get hy
          rw [sizeEs_step hy hc.2] at hr2
          refine wp_skip' ?_
          refine hK16 _ ?_
          refine wp_seq' fun K18 hK18 hX18 => ?_
          refine wp_blk' fun K19 hB19 hE19 hR19 hP19 => ?_
          refine wp_r' fun K20 hK20 hP20 => ?_
          -- F31r7
          simp (config := { decide := true }) only [F31r7, eng, engc, engt, true_and, and_true, eq_self, and_self, decide_true, decide_false, reduceIte, Nat.reduceEqDiff, Nat.reduceLeDiff, Nat.reduceAdd, Nat.reduceLT, abin_quo, Int.reduceEq, if_false, hx, hy]
          try simp (disch := omega) only [wrap_id, engd, engt]
          refine WCall.ret (c44 (n + 1) y (by omega) (by omega) _ h) rfl ?_
          simp (config := { decide := true }) only [eng, engc, engt, true_and, and_true, eq_self, and_self, decide_true, decide_false, reduceIte, Nat.reduceEqDiff, Nat.reduceLeDiff, Nat.reduceAdd, Nat.reduceLT, abin_quo, Int.reduceEq, if_false, hx, hy]
          try simp (disch := omega) only [wrap_id, engd, engt]
          refine hK20 _ ?_
          simp only [keep_mk, only_cons, only_nil, look_cons, look_nil, reduceIte, Nat.reduceEqDiff, Nat.reduceAdd]
          refine (hB19 _ ?_).1
          refine hK18 _ ?_
          refine wp_r' fun K21 hK21 hP21 => ?_
          -- F31r8
          simp (config := { decide := true }) only [F31r8, eng, engc, engt, true_and, and_true, eq_self, and_self, decide_true, decide_false, reduceIte, Nat.reduceEqDiff, Nat.reduceLeDiff, Nat.reduceAdd, Nat.reduceLT, abin_quo, Int.reduceEq, if_false, hx, hy]
          refine hK21 _ ?_
          simp only [keep_mk, only_cons, only_nil, look_cons, look_nil, reduceIte, Nat.reduceEqDiff, Nat.reduceAdd]
          refine hN15 (j + 1, _) _ (by simp only; omega) ⟨by simp only; omega, hr2, ?_⟩
          rw [wrap_id (n := (j : Int) + 1) (by omega)]
          rfl
        · skip
          simp only [Bool.and_eq_true, Bool.and_eq_false_iff, decide_eq_true_eq, decide_eq_false_iff_not] at hc
          rw [sizeEs_stop (by omega)] at hr2
          subst hr2
          refine wp_exit' ?_
          refine hX16 _ _ (by simp) ?_
          refine hX15 _ _ (by simp) ?_
          refine (hB14 _ ?_).2
          refine hK12 _ ?_
          refine wp_r fun K22 hK22 hP22 => ?_
          -- F31r9
          simp (config := { decide := true }) only [F31r9, eng, engc, engt, true_and, and_true, eq_self, and_self, decide_true, decide_false, reduceIte, Nat.reduceEqDiff, Nat.reduceLeDiff, Nat.reduceAdd, Nat.reduceLT, abin_quo, Int.reduceEq, if_false, hx]
          try simp (disch := omega) only [wrap_id, engd, engt]
          refine WCall.ret (ih _ (by omega) (by omega) _ h) rfl ?_
          simp (config := { decide := true }) only [eng, engc, engt, true_and, and_true, eq_self, and_self, decide_true, decide_false, reduceIte, Nat.reduceEqDiff, Nat.reduceLeDiff, Nat.reduceAdd, Nat.reduceLT, abin_quo, Int.reduceEq, if_false, hx]
          try simp (disch := omega) only [wrap_id, engd, engt]
          refine hK22 _ ?_
          simp only [keep_mk, only_cons, only_nil, look_cons, look_nil, reduceIte, Nat.reduceEqDiff, Nat.reduceAdd]
          refine wp_r' fun K23 hK23 hP23 => ?_
          -- F31r10
          simp (config := { decide := true }) only [F31r10, eng, engc, engt, true_and, and_true, eq_self, and_self, decide_true, decide_false, reduceIte, Nat.reduceEqDiff, Nat.reduceLeDiff, Nat.reduceAdd, Nat.reduceLT, abin_quo, Int.reduceEq, if_false, hx]
          try simp (disch := omega) only [wrap_id, engd, engt]
          refine WCall.ret (ih _ (by omega) (by omega) _ h) rfl ?_
          simp (config := { decide := true }) only [eng, engc, engt, true_and, and_true, eq_self, and_self, decide_true, decide_false, reduceIte, Nat.reduceEqDiff, Nat.reduceLeDiff, Nat.reduceAdd, Nat.reduceLT, abin_quo, Int.reduceEq, if_false, hx]
          try simp (disch := omega) only [wrap_id, engd, engt]
          refine hK23 _ ?_
          simp only [keep_mk, only_cons, only_nil, look_cons, look_nil, reduceIte, Nat.reduceEqDiff, Nat.reduceAdd]
          refine (hB10 _ ?_).1
          refine hK9 _ ?_
          refine wp_r' fun K24 hK24 hP24 => ?_
          -- F31r11
          simp (config := { decide := true }) only [F31r11, eng, engc, engt, true_and, and_true, eq_self, and_self, decide_true, decide_false, reduceIte, Nat.reduceEqDiff, Nat.reduceLeDiff, Nat.reduceAdd, Nat.reduceLT, abin_quo, Int.reduceEq, if_false, hx]
          refine hK24 _ ?_
          simp only [keep_mk, only_cons, only_nil, look_cons, look_nil, reduceIte, Nat.reduceEqDiff, Nat.reduceAdd]
          refine hN6 (k + 1, x.size most a) _ (by simp only; omega) ⟨by simp only; omega, hr, ?_⟩
          rw [wrap_id (n := (k : Int) + 1) (by omega), TStmt.size_eq]
          rfl
      by_cases h1 : (j : Int) < (x.e.length : Int) <;> by_cases h2 : a2 ≤ most <;> (
        simp (config := { decide := true }) only [F31r6, eng, engc, engt, true_and, and_true, eq_self, and_self, decide_true, decide_false, reduceIte, Nat.reduceEqDiff, Nat.reduceLeDiff, Nat.reduceAdd, Nat.reduceLT, abin_quo, Int.reduceEq, if_false, hx, h1, h2]
        try simp (disch := omega) only [wrap_id, engd, engt]
        refine J _ ?_
        subst hb0
        simp only [keep_mk, only_cons, only_nil, look_cons, look_nil, reduceIte, Nat.reduceEqDiff, h1, h2, decide_true, decide_false, Bool.true_and, Bool.false_and, Bool.true_or, Bool.false_or])
    · skip
      simp only [Bool.and_eq_true, Bool.and_eq_false_iff, decide_eq_true_eq, decide_eq_false_iff_not] at hc
      rw [sizeSs_stop (by omega)] at hr
      subst hr
      refine wp_exit' ?_
      refine hX7 _ _ (by simp) ?_
      refine hX6 _ _ (by simp) ?_
      refine (hB5 _ ?_).2
      refine hK3 _ ?_
      refine wp_r fun K25 hK25 hP25 => ?_
      -- F31r12
      simp (config := { decide := true }) only [F31r12, eng, engc, engt, true_and, and_true, eq_self, and_self, decide_true, decide_false, reduceIte, Nat.reduceEqDiff, Nat.reduceLeDiff, Nat.reduceAdd, Nat.reduceLT, abin_quo, Int.reduceEq, if_false]
      refine hK25 _ ?_
      simp only [keep_mk, only_cons, only_nil, look_cons, look_nil, reduceIte, Nat.reduceEqDiff, Nat.reduceAdd]
      refine wp_ret' ?_
      exact fin_ret1 rfl rfl
  by_cases h1 : (k : Int) < (l.length : Int) <;> by_cases h2 : a ≤ most <;> (
    simp (config := { decide := true }) only [F31r3, eng, engc, engt, true_and, and_true, eq_self, and_self, decide_true, decide_false, reduceIte, Nat.reduceEqDiff, Nat.reduceLeDiff, Nat.reduceAdd, Nat.reduceLT, abin_quo, Int.reduceEq, if_false, h1, h2]
    try simp (disch := omega) only [wrap_id, engd, engt]
    refine J _ ?_
    subst hb0
    simp only [keep_mk, only_cons, only_nil, look_cons, look_nil, reduceIte, Nat.reduceEqDiff, h1, h2, decide_true, decide_false, Bool.true_and, Bool.false_and, Bool.true_or, Bool.false_or])

end Go.Proofs.Ytmdpemgiidjbcaa.Cd

set_option linter.unusedSimpArgs false
set_option linter.unusedVariables false
set_option maxRecDepth 10000
set_option maxHeartbeats 1000000
namespace Go.Proofs.Ytmdpemgiidjbcaa.Cd
open Go.Am
theorem c20 (l : List TProc) (most : Int) (hl : l.length < 900000000) (hs : ∀ p ∈ l, countAll p.body + esAll p.body < 900000000 ∧ p.params.length < 900000000) : ∀ h, CallS Try.prog 20 [.agg [.sl 4 (l.map procV)], .int .i64 most] h (.ret (.int .i64 (sizeProg most 0 l))) h := by
  intro h
  refine fun_ok ok20 rfl ?_
  show awp _ F20b (AS.mk F20.dep [(0, .agg [.sl 4 (l.map procV)]), (1, .int .i64 most)] [] h []) _
  generalize hr : sizeProg most 0 l = r
  refine wp_r fun K1 hK1 hP1 => ?_
  -- F20r0
  simp (config := { decide := true }) only [F20r0, eng, engc, engt, true_and, and_true, eq_self, and_self, decide_true, decide_false, reduceIte, Nat.reduceEqDiff, Nat.reduceLeDiff, Nat.reduceAdd, Nat.reduceLT, abin_quo, Int.reduceEq, if_false, procVs_get, procVs_len, paramVs_get, paramVs_len]
  refine hK1 _ ?_
  simp only [keep_mk, only_cons, only_nil, look_cons, look_nil, reduceIte, Nat.reduceEqDiff, Nat.reduceAdd]
  refine wp_r fun K2 hK2 hP2 => ?_
  -- F20r1
  simp (config := { decide := true }) only [F20r1, eng, engc, engt, true_and, and_true, eq_self, and_self, decide_true, decide_false, reduceIte, Nat.reduceEqDiff, Nat.reduceLeDiff, Nat.reduceAdd, Nat.reduceLT, abin_quo, Int.reduceEq, if_false, procVs_get, procVs_len, paramVs_get, paramVs_len]
  refine hK2 _ ?_
  simp only [keep_mk, only_cons, only_nil, look_cons, look_nil, reduceIte, Nat.reduceEqDiff, Nat.reduceAdd]
  refine wp_seq' fun K3 hK3 hX3 => ?_
  refine wp_r fun K4 hK4 hP4 => ?_
  -- F20r2
  simp (config := { decide := true }) only [F20r2, eng, engc, engt, true_and, and_true, eq_self, and_self, decide_true, decide_false, reduceIte, Nat.reduceEqDiff, Nat.reduceLeDiff, Nat.reduceAdd, Nat.reduceLT, abin_quo, Int.reduceEq, if_false, procVs_get, procVs_len, paramVs_get, paramVs_len]
  refine hK4 _ ?_
  simp only [keep_mk, only_cons, only_nil, look_cons, look_nil, reduceIte, Nat.reduceEqDiff, Nat.reduceAdd]
  refine wp_blk' fun K5 hB5 hE5 hR5 hP5 => ?_
  refine wp_loop' (fun (q : Nat × Int) s => q.1 ≤ l.length ∧ sizeProg most q.2 (l.drop q.1) = r ∧ s = AS.mk [(2, [2, 9, 22, 31, 40, 56, 70])] [(1, .int .i64 most), (2, .lptr 2 0), (5, .int .i64 q.2), (6, .int .i64 q.1)] [(2, [.sl 4 (l.map procV)])] h []) (fun q => l.length - q.1) ((0, 0)) ⟨Nat.zero_le _, hr, rfl⟩ ?_
  rintro ⟨k, a⟩ s ⟨hk, hr, rfl⟩
  simp only at hk hr ⊢
  refine ⟨_, Weak.refl _, fun K6 hN6 hX6 => ?_⟩
  refine wp_seq' fun K7 hK7 hX7 => ?_
  refine wp_r fun K8 hK8 hP8 => ?_
  -- F20r3
  obtain ⟨b0, hb0⟩ : ∃ b0 : Bool, b0 = (decide ((k : Int) < (l.length : Int)) && decide (a ≤ most)) := ⟨_, rfl⟩
  have J : ∀ s1 : AS, AS.keep s1 [1, 2, 5, 6, 17] [2] = AS.mk [(2, [2, 9, 22, 31, 40, 56, 70])] [(1, .int .i64 most), (2, .lptr 2 0), (5, .int .i64 a), (6, .int .i64 k), (17, .bool b0)] [(2, [.sl 4 (l.map procV)])] h [] → K8 .norm s1 := by
    intro s1 hs1
    refine hK8 _ ?_
    rw [hs1]
    subst hb0
    refine wp_cond' rfl (fun hc => ?_) (fun hc => ?_)
    · skip
      simp only [Bool.and_eq_true, Bool.and_eq_false_iff, decide_eq_true_eq, decide_eq_false_iff_not] at hc
      obtain ⟨p, hx⟩ := get_some (l := l) (k := k) (by omega)
      have hq1 := hs p (List.mem_of_getElem? hx)
      rw [sizeProg_step hx hc.2] at hr
      refine wp_skip' ?_
      refine hK7 _ ?_
      refine wp_seq' fun K9 hK9 hX9 => ?_
      refine wp_blk' fun K10 hB10 hE10 hR10 hP10 => ?_
      refine wp_dr (by kernel_rfl) fun K11 hK11 hP11 => ?_
      -- F20r4
      simp (config := { decide := true }) only [F20r4, eng, engc, engt, true_and, and_true, eq_self, and_self, decide_true, decide_false, reduceIte, Nat.reduceEqDiff, Nat.reduceLeDiff, Nat.reduceAdd, Nat.reduceLT, abin_quo, Int.reduceEq, if_false, procVs_get, procVs_len, paramVs_get, paramVs_len, hx]
      repeat refine ⟨rfl, ?_⟩
      refine hK11 _ ?_
      simp only [keep_mk, only_cons, only_nil, look_cons, look_nil, reduceIte, Nat.reduceEqDiff, Nat.reduceAdd]
      refine wp_seq' fun K12 hK12 hX12 => ?_
      refine wp_r fun K13 hK13 hP13 => ?_
      -- F20r5
      simp (config := { decide := true }) only [F20r5, eng, engc, engt, true_and, and_true, eq_self, and_self, decide_true, decide_false, reduceIte, Nat.reduceEqDiff, Nat.reduceLeDiff, Nat.reduceAdd, Nat.reduceLT, abin_quo, Int.reduceEq, if_false, procVs_get, procVs_len, paramVs_get, paramVs_len, hx]
      refine hK13 _ ?_
      simp only [keep_mk, only_cons, only_nil, look_cons, look_nil, reduceIte, Nat.reduceEqDiff, Nat.reduceAdd]
      refine wp_blk' fun K14 hB14 hE14 hR14 hP14 => ?_
      refine wp_loop' (fun (q : Nat × Int) s => q.1 ≤ p.params.length ∧ sizePs most q.2 (p.params.drop q.1) = sizePs most (IntKind.wrap .i64 (IntKind.wrap .i64 (IntKind.wrap .i64 (a + 1) + IntKind.wrap .i64 (Int.tdiv p.name.size 8)) + p.params.length)) p.params ∧ s = AS.mk [(2, [2, 9, 22, 31, 40, 56, 70])] [(1, .int .i64 most), (2, .lptr 2 0), (5, .int .i64 q.2), (6, .int .i64 k), (7, .int .i64 q.1)] [(2, [.sl 4 (l.map procV)])] h []) (fun q => p.params.length - q.1) ((0, IntKind.wrap .i64 (IntKind.wrap .i64 (IntKind.wrap .i64 (a + 1) + IntKind.wrap .i64 (Int.tdiv p.name.size 8)) + p.params.length))) ⟨Nat.zero_le _, rfl, rfl⟩ ?_
      rintro ⟨j, a2⟩ s ⟨hj, hr2, rfl⟩
      simp only at hj hr2 ⊢
      refine ⟨_, Weak.refl _, fun K15 hN15 hX15 => ?_⟩
      refine wp_seq' fun K16 hK16 hX16 => ?_
      refine wp_r fun K17 hK17 hP17 => ?_
      -- F20r6
      obtain ⟨b0, hb0⟩ : ∃ b0 : Bool, b0 = (decide ((j : Int) < (p.params.length : Int)) && decide (a2 ≤ most)) := ⟨_, rfl⟩
      have J : ∀ s1 : AS, AS.keep s1 [1, 2, 5, 6, 7, 52] [2] = AS.mk [(2, [2, 9, 22, 31, 40, 56, 70])] [(1, .int .i64 most), (2, .lptr 2 0), (5, .int .i64 a2), (6, .int .i64 k), (7, .int .i64 j), (52, .bool b0)] [(2, [.sl 4 (l.map procV)])] h [] → K17 .norm s1 := by
        intro s1 hs1
        refine hK17 _ ?_
        rw [hs1]
        subst hb0
        refine wp_cond' rfl (fun hc => ?_) (fun hc => ?_)
        · skip
          simp only [Bool.and_eq_true, Bool.and_eq_false_iff, decide_eq_true_eq, decide_eq_false_iff_not] at hc
          obtain ⟨y, hy⟩ := get_some (l := p.params) (k := j) (by omega)
          rw [sizePs_step hy hc.2] at hr2
          refine wp_skip' ?_
          refine hK16 _ ?_
          refine wp_seq' fun K18 hK18 hX18 => ?_
          refine wp_blk' fun K19 hB19 hE19 hR19 hP19 => ?_
          refine wp_r' fun K20 hK20 hP20 => ?_
          -- F20r7
          simp (config := { decide := true }) only [F20r7, eng, engc, engt, true_and, and_true, eq_self, and_self, decide_true, decide_false, reduceIte, Nat.reduceEqDiff, Nat.reduceLeDiff, Nat.reduceAdd, Nat.reduceLT, abin_quo, Int.reduceEq, if_false, procVs_get, procVs_len, paramVs_get, paramVs_len, hx, hy]
          refine hK20 _ ?_
          simp only [keep_mk, only_cons, only_nil, look_cons, look_nil, reduceIte, Nat.reduceEqDiff, Nat.reduceAdd]
          refine (hB19 _ ?_).1
          refine hK18 _ ?_
          refine wp_r' fun K21 hK21 hP21 => ?_
          -- F20r8
          simp (config := { decide := true }) only [F20r8, eng, engc, engt, true_and, and_true, eq_self, and_self, decide_true, decide_false, reduceIte, Nat.reduceEqDiff, Nat.reduceLeDiff, Nat.reduceAdd, Nat.reduceLT, abin_quo, Int.reduceEq, if_false, procVs_get, procVs_len, paramVs_get, paramVs_len, hx, hy]
          refine hK21 _ ?_
          simp only [keep_mk, only_cons, only_nil, look_cons, look_nil, reduceIte, Nat.reduceEqDiff, Nat.reduceAdd]
          refine hN15 (j + 1, _) _ (by simp only; omega) ⟨by simp only; omega, hr2, ?_⟩
          rw [wrap_id (n := (j : Int) + 1) (by omega)]
          rfl
        · skip
          simp only [Bool.and_eq_true, Bool.and_eq_false_iff, decide_eq_true_eq, decide_eq_false_iff_not] at hc
          rw [sizePs_stop (by omega)] at hr2
          subst hr2
          refine wp_exit' ?_
          refine hX16 _ _ (by simp) ?_
          refine hX15 _ _ (by simp) ?_
          refine (hB14 _ ?_).2
          refine hK12 _ ?_
          refine wp_r' fun K22 hK22 hP22 => ?_
          -- F20r9
          simp (config := { decide := true }) only [F20r9, eng, engc, engt, true_and, and_true, eq_self, and_self, decide_true, decide_false, reduceIte, Nat.reduceEqDiff, Nat.reduceLeDiff, Nat.reduceAdd, Nat.reduceLT, abin_quo, Int.reduceEq, if_false, procVs_get, procVs_len, paramVs_get, paramVs_len, hx]
          try simp (disch := omega) only [wrap_id, engd, engt]
          refine WCall.ret (c31 _ p.body (Nat.lt_succ_self _) (by omega) _ h) rfl ?_
          simp (config := { decide := true }) only [eng, engc, engt, true_and, and_true, eq_self, and_self, decide_true, decide_false, reduceIte, Nat.reduceEqDiff, Nat.reduceLeDiff, Nat.reduceAdd, Nat.reduceLT, abin_quo, Int.reduceEq, if_false, procVs_get, procVs_len, paramVs_get, paramVs_len, hx]
          try simp (disch := omega) only [wrap_id, engd, engt]
          refine hK22 _ ?_
          simp only [keep_mk, only_cons, only_nil, look_cons, look_nil, reduceIte, Nat.reduceEqDiff, Nat.reduceAdd]
          refine (hB10 _ ?_).1
          refine hK9 _ ?_
          refine wp_r' fun K23 hK23 hP23 => ?_
          -- F20r10
          simp (config := { decide := true }) only [F20r10, eng, engc, engt, true_and, and_true, eq_self, and_self, decide_true, decide_false, reduceIte, Nat.reduceEqDiff, Nat.reduceLeDiff, Nat.reduceAdd, Nat.reduceLT, abin_quo, Int.reduceEq, if_false, procVs_get, procVs_len, paramVs_get, paramVs_len, hx]
          refine hK23 _ ?_
          simp only [keep_mk, only_cons, only_nil, look_cons, look_nil, reduceIte, Nat.reduceEqDiff, Nat.reduceAdd]
          refine hN6 (k + 1, sizeProc most a p) _ (by simp only; omega) ⟨by simp only; omega, hr, ?_⟩
          rw [wrap_id (n := (k : Int) + 1) (by omega), sizeProc]
          rfl
      by_cases h1 : (j : Int) < (p.params.length : Int) <;> by_cases h2 : a2 ≤ most <;> (
        simp (config := { decide := true }) only [F20r6, eng, engc, engt, true_and, and_true, eq_self, and_self, decide_true, decide_false, reduceIte, Nat.reduceEqDiff, Nat.reduceLeDiff, Nat.reduceAdd, Nat.reduceLT, abin_quo, Int.reduceEq, if_false, procVs_get, procVs_len, paramVs_get, paramVs_len, hx, h1, h2]
        try simp (disch := omega) only [wrap_id, engd, engt]
        refine J _ ?_
        subst hb0
        simp only [keep_mk, only_cons, only_nil, look_cons, look_nil, reduceIte, Nat.reduceEqDiff, h1, h2, decide_true, decide_false, Bool.true_and, Bool.false_and, Bool.true_or, Bool.false_or]
        try rfl)
    · skip
      simp only [Bool.and_eq_true, Bool.and_eq_false_iff, decide_eq_true_eq, decide_eq_false_iff_not] at hc
      rw [sizeProg_stop (by omega)] at hr
      subst hr
      refine wp_exit' ?_
      refine hX7 _ _ (by simp) ?_
      refine hX6 _ _ (by simp) ?_
      refine (hB5 _ ?_).2
      refine hK3 _ ?_
      refine wp_r fun K24 hK24 hP24 => ?_
      -- F20r11
      simp (config := { decide := true }) only [F20r11, eng, engc, engt, true_and, and_true, eq_self, and_self, decide_true, decide_false, reduceIte, Nat.reduceEqDiff, Nat.reduceLeDiff, Nat.reduceAdd, Nat.reduceLT, abin_quo, Int.reduceEq, if_false, procVs_get, procVs_len, paramVs_get, paramVs_len]
      refine hK24 _ ?_
      simp only [keep_mk, only_cons, only_nil, look_cons, look_nil, reduceIte, Nat.reduceEqDiff, Nat.reduceAdd]
      refine wp_ret' ?_
      exact fin_ret1 rfl rfl
  by_cases h1 : (k : Int) < (l.length : Int) <;> by_cases h2 : a ≤ most <;> (
    simp (config := { decide := true }) only [F20r3, eng, engc, engt, true_and, and_true, eq_self, and_self, decide_true, decide_false, reduceIte, Nat.reduceEqDiff, Nat.reduceLeDiff, Nat.reduceAdd, Nat.reduceLT, abin_quo, Int.reduceEq, if_false, procVs_get, procVs_len, paramVs_get, paramVs_len, h1, h2]
    try simp (disch := omega) only [wrap_id, engd, engt]
    refine J _ ?_
    subst hb0
    simp only [keep_mk, only_cons, only_nil, look_cons, look_nil, reduceIte, Nat.reduceEqDiff, h1, h2, decide_true, decide_false, Bool.true_and, Bool.false_and, Bool.true_or, Bool.false_or]
    try rfl)

theorem c7 (l : List TProc) (hl : l.length < 900000000) (hs : ∀ p ∈ l, countAll p.body + esAll p.body < 900000000 ∧ p.params.length < 900000000) : ∀ h, CallS Try.prog 7 [.agg [.sl 4 (l.map procV)]] h (.ret (.bool (decide (1500 < sizeProg 1500 0 l)))) h := by
  intro h
  refine fun_ok ok7 rfl ?_
  show awp _ F7b (AS.mk F7.dep [(0, .agg [.sl 4 (l.map procV)])] [] h []) _
  refine wp_r fun K1 hK1 hP1 => ?_
  -- F7r0
  simp (config := { decide := true }) only [F7r0, eng, engc, engt, true_and, and_true, eq_self, and_self, decide_true, decide_false, reduceIte, Nat.reduceEqDiff, Nat.reduceLeDiff, Nat.reduceAdd, Nat.reduceLT]
  refine hK1 _ ?_
  simp only [keep_mk, only_cons, only_nil, look_cons, look_nil, reduceIte, Nat.reduceEqDiff, Nat.reduceAdd]
  refine wp_r fun K2 hK2 hP2 => ?_
  -- F7r1
  simp (config := { decide := true }) only [F7r1, eng, engc, engt, true_and, and_true, eq_self, and_self, decide_true, decide_false, reduceIte, Nat.reduceEqDiff, Nat.reduceLeDiff, Nat.reduceAdd, Nat.reduceLT]
  try simp (disch := omega) only [wrap_id, engd, engt]
  refine WCall.ret (c20 l _ hl hs h) rfl ?_
  simp (config := { decide := true }) only [eng, engc, engt, true_and, and_true, eq_self, and_self, decide_true, decide_false, reduceIte, Nat.reduceEqDiff, Nat.reduceLeDiff, Nat.reduceAdd, Nat.reduceLT]
  try simp (disch := omega) only [wrap_id, engd, engt]
  refine hK2 _ ?_
  simp only [keep_mk, only_cons, only_nil, look_cons, look_nil, reduceIte, Nat.reduceEqDiff, Nat.reduceAdd]
  refine wp_ret' ?_
  exact fin_ret1 rfl rfl

end Go.Proofs.Ytmdpemgiidjbcaa.Cd

set_option linter.unusedSimpArgs false
set_option linter.unusedVariables false
set_option maxRecDepth 10000
set_option maxHeartbeats 4000000
namespace Go.Proofs.Ytmdpemgiidjbcaa.Cd
open Go.Am
theorem same43 (n : Nat) (ih : ∀ (l : List TExpr), ecount l < n → ∀ h, CallS Try.prog 29 [.sl 4 (exprVs l), .sl 4 (exprVs l)] h (.ret (.bool true)) h) (x : TExpr) (hx : ecount x.l < n) : ∀ h, CallS Try.prog 43 [exprV x, exprV x] h (.ret (.bool true)) h := by
  intro h
  refine fun_ok ok43 rfl ?_
  show awp _ F43b (AS.mk [(2, [2, 5, 11, 18, 24]), (3, [3, 7, 13, 20, 26])] [(0, exprV x), (1, exprV x)] [] h []) _
  refine wp_r fun K1 hK1 hP1 => ?_
  -- F43r0
  simp (config := { decide := true }) only [F43r0, eng, engc, engt, true_and, and_true, eq_self, and_self, decide_true, decide_false, reduceIte, Nat.reduceEqDiff, Nat.reduceLeDiff, Nat.reduceAdd, Nat.reduceLT, ne_eq, not_true_eq_false]
  refine hK1 _ ?_
  simp only [keep_mk, only_cons, only_nil, look_cons, look_nil, reduceIte, Nat.reduceEqDiff, Nat.reduceAdd]
  refine wp_seq' fun K2 hK2 hX2 => ?_
  refine wp_r fun K3 hK3 hP3 => ?_
  -- F43r1
  simp (config := { decide := true }) only [F43r1, eng, engc, engt, true_and, and_true, eq_self, and_self, decide_true, decide_false, reduceIte, Nat.reduceEqDiff, Nat.reduceLeDiff, Nat.reduceAdd, Nat.reduceLT, ne_eq, not_true_eq_false]
  refine hK3 _ ?_
  simp only [keep_mk, only_cons, only_nil, look_cons, look_nil, reduceIte, Nat.reduceEqDiff, Nat.reduceAdd]
  refine wp_cond' rfl (fun hc => ?_) (fun hc => ?_)
  · skip
    cases hc
  · skip
    refine wp_skip' ?_
    refine hK2 _ ?_
    refine wp_r fun K4 hK4 hP4 => ?_
    -- F43r3
    simp (config := { decide := true }) only [F43r3, eng, engc, engt, true_and, and_true, eq_self, and_self, decide_true, decide_false, reduceIte, Nat.reduceEqDiff, Nat.reduceLeDiff, Nat.reduceAdd, Nat.reduceLT, ne_eq, not_true_eq_false]
    try simp (disch := omega) only [wrap_id, engd, engt]
    refine WCall.ret (ih _ hx h) rfl ?_
    simp (config := { decide := true }) only [eng, engc, engt, true_and, and_true, eq_self, and_self, decide_true, decide_false, reduceIte, Nat.reduceEqDiff, Nat.reduceLeDiff, Nat.reduceAdd, Nat.reduceLT, ne_eq, not_true_eq_false]
    try simp (disch := omega) only [wrap_id, engd, engt]
    refine hK4 _ ?_
    simp only [keep_mk, only_cons, only_nil, look_cons, look_nil, reduceIte, Nat.reduceEqDiff, Nat.reduceAdd]
    refine wp_ret' ?_
    exact fin_ret1 rfl rfl

theorem c29 : ∀ (n : Nat) (l : List TExpr), ecount l < n → n < 4000000000000000000 → ∀ h, CallS Try.prog 29 [.sl 4 (exprVs l), .sl 4 (exprVs l)] h (.ret (.bool true)) h := by
  intro n
  induction n with
  | zero => intro x h; omega
  | succ n ih =>
  intro l hl hn h
  refine fun_ok ok29 rfl ?_
  show awp _ F29b (AS.mk F29.dep [(0, .sl 4 (exprVs l)), (1, .sl 4 (exprVs l))] [] h []) _
  have hln := len_le_ecount l
  refine wp_r fun K1 hK1 hP1 => ?_
  -- F29r0
  simp (config := { decide := true }) only [F29r0, eng, engc, engt, true_and, and_true, eq_self, and_self, decide_true, decide_false, reduceIte, Nat.reduceEqDiff, Nat.reduceLeDiff, Nat.reduceAdd, Nat.reduceLT, ne_eq, not_true_eq_false, aun]
  refine hK1 _ ?_
  simp only [keep_mk, only_cons, only_nil, look_cons, look_nil, reduceIte, Nat.reduceEqDiff, Nat.reduceAdd]
  refine wp_seq' fun K2 hK2 hX2 => ?_
  refine wp_r fun K3 hK3 hP3 => ?_
  -- F29r1
  simp (config := { decide := true }) only [F29r1, eng, engc, engt, true_and, and_true, eq_self, and_self, decide_true, decide_false, reduceIte, Nat.reduceEqDiff, Nat.reduceLeDiff, Nat.reduceAdd, Nat.reduceLT, ne_eq, not_true_eq_false, aun]
  refine hK3 _ ?_
  simp only [keep_mk, only_cons, only_nil, look_cons, look_nil, reduceIte, Nat.reduceEqDiff, Nat.reduceAdd]
  refine wp_cond' rfl (fun hc => ?_) (fun hc => ?_)
  · skip
    cases hc
  · skip
    refine wp_skip' ?_
    refine hK2 _ ?_
    refine wp_seq' fun K4 hK4 hX4 => ?_
    refine wp_r fun K5 hK5 hP5 => ?_
    -- F29r3
    simp (config := { decide := true }) only [F29r3, eng, engc, engt, true_and, and_true, eq_self, and_self, decide_true, decide_false, reduceIte, Nat.reduceEqDiff, Nat.reduceLeDiff, Nat.reduceAdd, Nat.reduceLT, ne_eq, not_true_eq_false, aun]
    refine hK5 _ ?_
    simp only [keep_mk, only_cons, only_nil, look_cons, look_nil, reduceIte, Nat.reduceEqDiff, Nat.reduceAdd]
    refine wp_blk' fun K6 hB6 hE6 hR6 hP6 => ?_
    refine wp_loop' (fun (k : Nat) s => k ≤ l.length ∧ s = AS.mk [] [(0, .sl 4 (exprVs l)), (1, .sl 4 (exprVs l)), (5, .int .i64 k)] [] h []) (fun k => l.length - k) (0) ⟨Nat.zero_le _, rfl⟩ ?_
    rintro k s ⟨hk, rfl⟩
    refine ⟨_, Weak.refl _, fun K7 hN7 hX7 => ?_⟩
    refine wp_seq' fun K8 hK8 hX8 => ?_
    refine wp_r fun K9 hK9 hP9 => ?_
    -- F29r4
    simp (config := { decide := true }) only [F29r4, eng, engc, engt, true_and, and_true, eq_self, and_self, decide_true, decide_false, reduceIte, Nat.reduceEqDiff, Nat.reduceLeDiff, Nat.reduceAdd, Nat.reduceLT, ne_eq, not_true_eq_false, aun]
    refine hK9 _ ?_
    simp only [keep_mk, only_cons, only_nil, look_cons, look_nil, reduceIte, Nat.reduceEqDiff, Nat.reduceAdd]
    refine wp_cond' rfl (fun hc => ?_) (fun hc => ?_)
    · skip
      simp only [decide_eq_true_eq, decide_eq_false_iff_not] at hc
      obtain ⟨x, hx⟩ := get_some (l := l) (k := k) (by omega)
      have hxe := ecount_get hx
      have hce := TExpr.count_eq x
      refine wp_skip' ?_
      refine hK8 _ ?_
      refine wp_seq' fun K10 hK10 hX10 => ?_
      refine wp_blk' fun K11 hB11 hE11 hR11 hP11 => ?_
      refine wp_dr (by kernel_rfl) fun K12 hK12 hP12 => ?_
      -- F29r5
      simp (config := { decide := true }) only [F29r5, eng, engc, engt, true_and, and_true, eq_self, and_self, decide_true, decide_false, reduceIte, Nat.reduceEqDiff, Nat.reduceLeDiff, Nat.reduceAdd, Nat.reduceLT, ne_eq, not_true_eq_false, aun, hx]
      repeat refine ⟨rfl, ?_⟩
      try simp (disch := omega) only [wrap_id, engd, engt]
      refine RCall.pure (same43 n (fun l hl h => ih l hl (by omega) h) x (by omega) h) rfl rfl ?_
      simp (config := { decide := true }) only [eng, engc, engt, true_and, and_true, eq_self, and_self, decide_true, decide_false, reduceIte, Nat.reduceEqDiff, Nat.reduceLeDiff, Nat.reduceAdd, Nat.reduceLT, ne_eq, not_true_eq_false, aun, hx]
      try simp (disch := omega) only [wrap_id, engd, engt]
      repeat refine ⟨rfl, ?_⟩
      refine hK12 _ ?_
      simp only [keep_mk, only_cons, only_nil, look_cons, look_nil, reduceIte, Nat.reduceEqDiff, Nat.reduceAdd]
      refine wp_cond' rfl (fun hc => ?_) (fun hc => ?_)
      · skip
        cases hc
      · skip
        refine wp_skip' ?_
        refine (hB11 _ ?_).1
        refine hK10 _ ?_
        refine wp_r' fun K13 hK13 hP13 => ?_
        -- F29r7
        simp (config := { decide := true }) only [F29r7, eng, engc, engt, true_and, and_true, eq_self, and_self, decide_true, decide_false, reduceIte, Nat.reduceEqDiff, Nat.reduceLeDiff, Nat.reduceAdd, Nat.reduceLT, ne_eq, not_true_eq_false, aun, hx]
        try simp (disch := omega) only [wrap_id, engd, engt]
        refine hK13 _ ?_
        simp only [keep_mk, only_cons, only_nil, look_cons, look_nil, reduceIte, Nat.reduceEqDiff, Nat.reduceAdd]
        refine hN7 (k + 1) _ (by omega) ⟨by omega, rfl⟩
    · skip
      simp only [decide_eq_true_eq, decide_eq_false_iff_not] at hc
      refine wp_exit' ?_
      refine hX8 _ _ (by simp) ?_
      refine hX7 _ _ (by simp) ?_
      refine (hB6 _ ?_).2
      refine hK4 _ ?_
      refine wp_r fun K14 hK14 hP14 => ?_
      -- F29r8
      simp (config := { decide := true }) only [F29r8, eng, engc, engt, true_and, and_true, eq_self, and_self, decide_true, decide_false, reduceIte, Nat.reduceEqDiff, Nat.reduceLeDiff, Nat.reduceAdd, Nat.reduceLT, ne_eq, not_true_eq_false, aun]
      refine hK14 _ ?_
      simp only [keep_mk, only_cons, only_nil, look_cons, look_nil, reduceIte, Nat.reduceEqDiff, Nat.reduceAdd]
      refine wp_ret' ?_
      exact fin_ret1 rfl rfl

theorem c43 (x : TExpr) (hx : x.count < 4000000000000000000) : ∀ h, CallS Try.prog 43 [exprV x, exprV x] h (.ret (.bool true)) h := by
  have := TExpr.count_eq x
  exact same43 (x.count) (fun l hl h => c29 _ l hl (by omega) h) x (by omega)

end Go.Proofs.Ytmdpemgiidjbcaa.Cd

set_option linter.unusedSimpArgs false
set_option linter.unusedVariables false
set_option maxRecDepth 10000
set_option maxHeartbeats 400000
namespace Go.Proofs.Ytmdpemgiidjbcaa.Cd
open Go.Am
theorem c17 : ∀ (n : Nat) (l : List TStmt), countAll l + esAll l < n → n < 4000000000000000000 → ∀ h, CallS Try.prog 17 [.sl 7 (stmtVs l), .sl 7 (stmtVs l)] h (.ret (.bool true)) h := by
  intro n
  induction n with
  | zero => intro x h; omega
  | succ n ih =>
  intro l hl hn h
  refine fun_ok ok17 rfl ?_
  show awp _ F17b (AS.mk F17.dep [(0, .sl 7 (stmtVs l)), (1, .sl 7 (stmtVs l))] [] h []) _
  have hln := len_le_count l
  refine wp_r fun K1 hK1 hP1 => ?_
  -- F17r0
  simp (config := { decide := true }) only [F17r0, eng, engc, engt, true_and, and_true, eq_self, and_self, decide_true, decide_false, reduceIte, Nat.reduceEqDiff, Nat.reduceLeDiff, Nat.reduceAdd, Nat.reduceLT, ne_eq, not_true_eq_false, aun, Bool.not_true]
  refine hK1 _ ?_
  simp only [keep_mk, only_cons, only_nil, look_cons, look_nil, reduceIte, Nat.reduceEqDiff, Nat.reduceAdd]
  refine wp_seq' fun K2 hK2 hX2 => ?_
  refine wp_r fun K3 hK3 hP3 => ?_
  -- F17r1
  simp (config := { decide := true }) only [F17r1, eng, engc, engt, true_and, and_true, eq_self, and_self, decide_true, decide_false, reduceIte, Nat.reduceEqDiff, Nat.reduceLeDiff, Nat.reduceAdd, Nat.reduceLT, ne_eq, not_true_eq_false, aun, Bool.not_true]
  refine hK3 _ ?_
  simp only [keep_mk, only_cons, only_nil, look_cons, look_nil, reduceIte, Nat.reduceEqDiff, Nat.reduceAdd]
  refine wp_cond' rfl (fun hc => ?_) (fun hc => ?_)
  · skip
    cases hc
  · skip
    refine wp_skip' ?_
    refine hK2 _ ?_
    refine wp_seq' fun K4 hK4 hX4 => ?_
    refine wp_r fun K5 hK5 hP5 => ?_
    -- F17r3
    simp (config := { decide := true }) only [F17r3, eng, engc, engt, true_and, and_true, eq_self, and_self, decide_true, decide_false, reduceIte, Nat.reduceEqDiff, Nat.reduceLeDiff, Nat.reduceAdd, Nat.reduceLT, ne_eq, not_true_eq_false, aun, Bool.not_true]
    refine hK5 _ ?_
    simp only [keep_mk, only_cons, only_nil, look_cons, look_nil, reduceIte, Nat.reduceEqDiff, Nat.reduceAdd]
    refine wp_blk' fun K6 hB6 hE6 hR6 hP6 => ?_
    refine wp_loop' (fun (k : Nat) s => k ≤ l.length ∧ s = AS.mk [(6, [6, 27, 33, 40, 47, 54, 62, 70]), (7, [7, 29, 35, 42, 49, 56, 64, 72])] [(0, .sl 7 (stmtVs l)), (1, .sl 7 (stmtVs l)), (5, .int .i64 k)] [] h []) (fun k => l.length - k) (0) ⟨Nat.zero_le _, rfl⟩ ?_
    rintro k s ⟨hk, rfl⟩
    refine ⟨_, Weak.refl _, fun K7 hN7 hX7 => ?_⟩
    refine wp_seq' fun K8 hK8 hX8 => ?_
    refine wp_r fun K9 hK9 hP9 => ?_
    -- F17r4
    simp (config := { decide := true }) only [F17r4, eng, engc, engt, true_and, and_true, eq_self, and_self, decide_true, decide_false, reduceIte, Nat.reduceEqDiff, Nat.reduceLeDiff, Nat.reduceAdd, Nat.reduceLT, ne_eq, not_true_eq_false, aun, Bool.not_true]
    refine hK9 _ ?_
    simp only [keep_mk, only_cons, only_nil, look_cons, look_nil, reduceIte, Nat.reduceEqDiff, Nat.reduceAdd]
    refine wp_cond' rfl (fun hc => ?_) (fun hc => ?_)
    · skip
      simp only [decide_eq_true_eq, decide_eq_false_iff_not] at hc
      obtain ⟨x, hx⟩ := get_some (l := l) (k := k) (by omega)
      have hq1 := countAll_get hx
      have hq2 := esAll_get hx
      have hq3 := TStmt.count_eq x
      have hq4 := TStmt.ecount_eq x
      refine wp_skip' ?_
      refine hK8 _ ?_
      refine wp_seq' fun K10 hK10 hX10 => ?_
      refine wp_blk' fun K11 hB11 hE11 hR11 hP11 => ?_
      refine wp_dr (by kernel_rfl) fun K12 hK12 hP12 => ?_
      -- F17r5
      simp (config := { decide := true }) only [F17r5, eng, engc, engt, true_and, and_true, eq_self, and_self, decide_true, decide_false, reduceIte, Nat.reduceEqDiff, Nat.reduceLeDiff, Nat.reduceAdd, Nat.reduceLT, ne_eq, not_true_eq_false, aun, Bool.not_true, hx]
      repeat refine ⟨rfl, ?_⟩
      refine hK12 _ ?_
      simp only [keep_mk, only_cons, only_nil, look_cons, look_nil, reduceIte, Nat.reduceEqDiff, Nat.reduceAdd]
      refine wp_r fun K13 hK13 hP13 => ?_
      -- F17r6
      simp (config := { decide := true }) only [F17r6, eng, engc, engt, true_and, and_true, eq_self, and_self, decide_true, decide_false, reduceIte, Nat.reduceEqDiff, Nat.reduceLeDiff, Nat.reduceAdd, Nat.reduceLT, ne_eq, not_true_eq_false, aun, Bool.not_true, hx]
      try simp (disch := omega) only [wrap_id, engd, engt]
      refine WCall.ret (c29 (n + 1) _ (by omega) (by omega) h) rfl ?_
      simp (config := { decide := true }) only [eng, engc, engt, true_and, and_true, eq_self, and_self, decide_true, decide_false, reduceIte, Nat.reduceEqDiff, Nat.reduceLeDiff, Nat.reduceAdd, Nat.reduceLT, ne_eq, not_true_eq_false, aun, Bool.not_true, hx]
      try simp (disch := omega) only [wrap_id, engd, engt]
      try simp (disch := omega) only [wrap_id, engd, engt]
      refine WCall.ret (ih _ (by omega) (by omega) h) rfl ?_
      simp (config := { decide := true }) only [eng, engc, engt, true_and, and_true, eq_self, and_self, decide_true, decide_false, reduceIte, Nat.reduceEqDiff, Nat.reduceLeDiff, Nat.reduceAdd, Nat.reduceLT, ne_eq, not_true_eq_false, aun, Bool.not_true, hx]
      try simp (disch := omega) only [wrap_id, engd, engt]
      try simp (disch := omega) only [wrap_id, engd, engt]
      refine WCall.ret (ih _ (by omega) (by omega) h) rfl ?_
      simp (config := { decide := true }) only [eng, engc, engt, true_and, and_true, eq_self, and_self, decide_true, decide_false, reduceIte, Nat.reduceEqDiff, Nat.reduceLeDiff, Nat.reduceAdd, Nat.reduceLT, ne_eq, not_true_eq_false, aun, Bool.not_true, hx]
      try simp (disch := omega) only [wrap_id, engd, engt]
      refine hK13 _ ?_
      simp only [keep_mk, only_cons, only_nil, look_cons, look_nil, reduceIte, Nat.reduceEqDiff, Nat.reduceAdd]
      refine wp_cond' rfl (fun hc => ?_) (fun hc => ?_)
      · skip
        cases hc
      · skip
        refine wp_skip' ?_
        refine (hB11 _ ?_).1
        refine hK10 _ ?_
        refine wp_r' fun K14 hK14 hP14 => ?_
        -- F17r8
        simp (config := { decide := true }) only [F17r8, eng, engc, engt, true_and, and_true, eq_self, and_self, decide_true, decide_false, reduceIte, Nat.reduceEqDiff, Nat.reduceLeDiff, Nat.reduceAdd, Nat.reduceLT, ne_eq, not_true_eq_false, aun, Bool.not_true, hx]
        try simp (disch := omega) only [wrap_id, engd, engt]
        refine hK14 _ ?_
        simp only [keep_mk, only_cons, only_nil, look_cons, look_nil, reduceIte, Nat.reduceEqDiff, Nat.reduceAdd]
        refine hN7 (k + 1) _ (by omega) ⟨by omega, rfl⟩
    · skip
      simp only [decide_eq_true_eq, decide_eq_false_iff_not] at hc
      refine wp_exit' ?_
      refine hX8 _ _ (by simp) ?_
      refine hX7 _ _ (by simp) ?_
      refine (hB6 _ ?_).2
      refine hK4 _ ?_
      refine wp_r fun K15 hK15 hP15 => ?_
      -- F17r9
      simp (config := { decide := true }) only [F17r9, eng, engc, engt, true_and, and_true, eq_self, and_self, decide_true, decide_false, reduceIte, Nat.reduceEqDiff, Nat.reduceLeDiff, Nat.reduceAdd, Nat.reduceLT, ne_eq, not_true_eq_false, aun, Bool.not_true]
      refine hK15 _ ?_
      simp only [keep_mk, only_cons, only_nil, look_cons, look_nil, reduceIte, Nat.reduceEqDiff, Nat.reduceAdd]
      refine wp_ret' ?_
      exact fin_ret1 rfl rfl

end Go.Proofs.Ytmdpemgiidjbcaa.Cd

set_option linter.unusedSimpArgs false
set_option linter.unusedVariables false
set_option maxRecDepth 10000
set_option maxHeartbeats 1000000
namespace Go.Proofs.Ytmdpemgiidjbcaa.Cd
open Go.Am
theorem abin_bb (a b : Bool) : abin .bool .eql (.bool a) (.bool b) = some (.bool (a == b)) := rfl
theorem known8 : CallS Try.prog 8 [] [] (.ret (.bool true)) [] := CallS.frame kc21_ok rfl rfl rfl
theorem c17o (o : Option TStmt) (ho : ∀ s, o = some s → s.count + s.ecount < 3000000000000000000) (h : List HObj) : CallS Try.prog 17 [.sl 7 [optS o], .sl 7 [optS o]] h (.ret (.bool true)) h := by
  cases o with
  | some s =>
    have := ho s rfl
    exact c17 _ [s] (Nat.lt_succ_self _) (by simp only [countAll, esAll]; omega) h
  | none =>
    have hz : LeR (.sl 7 [optS none]) (.sl 7 (stmtVs [TStmt.zero])) := LeR.sl (.cons le_zstmt (by rfl) .nil)
    exact CallS.args (c17 _ [TStmt.zero] (Nat.lt_succ_self _) (by decide) h) (.cons hz (.cons hz .nil))
theorem esAll_flat : ∀ (n : Nat) (l : List TStmt), countAll l < n → ∀ s, s ∈ flatAll l → s.count + s.ecount ≤ countAll l + esAll l := by
  intro n
  induction n with
  | zero => intro l h; omega
  | succ n ih =>
    intro l
    induction l with
    | nil => intro _ s hs; cases hs
    | cons x l ihl =>
      intro hl s hs
      have h1 := TStmt.count_eq x
      have h2 := TStmt.ecount_eq x
      simp only [flatAll, TStmt.flat_eq, countAll, esAll, List.mem_append, List.mem_cons] at hs hl ⊢
      rcases hs with (rfl | hs | hs) | hs
      · omega
      · have := ih x.body (by omega) s hs; omega
      · have := ih x.els (by omega) s hs; omega
      · have := ihl (by omega) s hs; omega

theorem c6 (p : TProc) (m : Int) (hp : countAll p.body + esAll p.body < 900000000) (hq : p.params.length < 900000000) (hm : m ≤ 9223372036854775807) (hm2 : -9223372036854775808 ≤ m) : CallS Try.prog 6 [procV p, .int .i64 m] [] (.ret (.bool true)) [] := by
  refine fun_ok ok6 rfl ?_
  show awp _ F6b (AS.mk [(2, [2]), (5, [5]), (7, [7])] [(0, procV p), (1, .int .i64 m)] [] [] []) _
  have hs : ∀ s, stmtAt p.body m = some s → s.count + s.ecount < 3000000000000000000 := by
    intro s hs
    unfold stmtAt at hs
    split at hs
    · cases hs
    · have := esAll_flat _ p.body (Nat.lt_succ_self _) s (List.mem_of_getElem? hs)
      omega
  refine wp_r fun K1 hK1 hP1 => ?_
  -- F6r0
  simp (config := { decide := true }) only [F6r0, eng, engc, engt, AOp.mem, true_and, and_true, eq_self, and_self, decide_true, decide_false, reduceIte, Nat.reduceEqDiff, Nat.reduceLeDiff, Nat.reduceAdd, Nat.reduceLT, optS_dgc, optS_dg, optS_isV, optS_clen, optS_agg, optS_take, optS_dg1, zstmt, abin_bb, beq_self_eq_true]
  refine hK1 _ ?_
  simp only [keep_mk, only_cons, only_nil, look_cons, look_nil, reduceIte, Nat.reduceEqDiff, Nat.reduceAdd]
  refine wp_seq' fun K2 hK2 hX2 => ?_
  refine wp_r fun K3 hK3 hP3 => ?_
  -- F6r1
  simp (config := { decide := true }) only [F6r1, eng, engc, engt, AOp.mem, true_and, and_true, eq_self, and_self, decide_true, decide_false, reduceIte, Nat.reduceEqDiff, Nat.reduceLeDiff, Nat.reduceAdd, Nat.reduceLT, optS_dgc, optS_dg, optS_isV, optS_clen, optS_agg, optS_take, optS_dg1, zstmt, abin_bb, beq_self_eq_true]
  try simp (disch := omega) only [wrap_id, engd, engt, optS_dgc, optS_dg, optS_isV, optS_clen, optS_agg, optS_take, optS_dg1]
  refine WCall.ret (c7 [p] (by simp) (by intro q hq2; simp only [List.mem_singleton] at hq2; subst hq2; exact ⟨hp, hq⟩) []) rfl ?_
  simp (config := { decide := true }) only [eng, engc, engt, AOp.mem, true_and, and_true, eq_self, and_self, decide_true, decide_false, reduceIte, Nat.reduceEqDiff, Nat.reduceLeDiff, Nat.reduceAdd, Nat.reduceLT, optS_dgc, optS_dg, optS_isV, optS_clen, optS_agg, optS_take, optS_dg1, zstmt, abin_bb, beq_self_eq_true]
  try simp (disch := omega) only [wrap_id, engd, engt, optS_dgc, optS_dg, optS_isV, optS_clen, optS_agg, optS_take, optS_dg1]
  refine hK3 _ ?_
  simp only [keep_mk, only_cons, only_nil, look_cons, look_nil, reduceIte, Nat.reduceEqDiff, Nat.reduceAdd]
  refine wp_cond' rfl (fun hc => ?_) (fun hc => ?_)
  · skip
    refine wp_r fun K4 hK4 hP4 => ?_
    -- F6r2
    simp (config := { decide := true }) only [F6r2, eng, engc, engt, AOp.mem, true_and, and_true, eq_self, and_self, decide_true, decide_false, reduceIte, Nat.reduceEqDiff, Nat.reduceLeDiff, Nat.reduceAdd, Nat.reduceLT, optS_dgc, optS_dg, optS_isV, optS_clen, optS_agg, optS_take, optS_dg1, zstmt, abin_bb, beq_self_eq_true]
    try simp (disch := omega) only [wrap_id, engd, engt, optS_dgc, optS_dg, optS_isV, optS_clen, optS_agg, optS_take, optS_dg1]
    refine WCall.ret (known8) rfl ?_
    simp (config := { decide := true }) only [eng, engc, engt, AOp.mem, true_and, and_true, eq_self, and_self, decide_true, decide_false, reduceIte, Nat.reduceEqDiff, Nat.reduceLeDiff, Nat.reduceAdd, Nat.reduceLT, optS_dgc, optS_dg, optS_isV, optS_clen, optS_agg, optS_take, optS_dg1, zstmt, abin_bb, beq_self_eq_true]
    try simp (disch := omega) only [wrap_id, engd, engt, optS_dgc, optS_dg, optS_isV, optS_clen, optS_agg, optS_take, optS_dg1]
    refine hK4 _ ?_
    simp only [keep_mk, only_cons, only_nil, look_cons, look_nil, reduceIte, Nat.reduceEqDiff, Nat.reduceAdd]
    refine wp_ret' ?_
    refine hX2 _ _ (by simp) ?_
    exact fin_ret1 rfl rfl
  · skip
    refine wp_skip' ?_
    refine hK2 _ ?_
    refine wp_r fun K5 hK5 hP5 => ?_
    -- F6r3
    simp (config := { decide := true }) only [F6r3, eng, engc, engt, AOp.mem, true_and, and_true, eq_self, and_self, decide_true, decide_false, reduceIte, Nat.reduceEqDiff, Nat.reduceLeDiff, Nat.reduceAdd, Nat.reduceLT, optS_dgc, optS_dg, optS_isV, optS_clen, optS_agg, optS_take, optS_dg1, zstmt, abin_bb, beq_self_eq_true]
    try simp (disch := omega) only [wrap_id, engd, engt, optS_dgc, optS_dg, optS_isV, optS_clen, optS_agg, optS_take, optS_dg1]
    refine WCall.ret (c15 p m (by omega) hm []) rfl ?_
    simp (config := { decide := true }) only [eng, engc, engt, AOp.mem, true_and, and_true, eq_self, and_self, decide_true, decide_false, reduceIte, Nat.reduceEqDiff, Nat.reduceLeDiff, Nat.reduceAdd, Nat.reduceLT, optS_dgc, optS_dg, optS_isV, optS_clen, optS_agg, optS_take, optS_dg1, zstmt, abin_bb, beq_self_eq_true]
    try simp (disch := omega) only [wrap_id, engd, engt, optS_dgc, optS_dg, optS_isV, optS_clen, optS_agg, optS_take, optS_dg1]
    refine hK5 _ ?_
    simp only [keep_mk, only_cons, only_nil, look_cons, look_nil, reduceIte, Nat.reduceEqDiff, Nat.reduceAdd]
    refine wp_r fun K6 hK6 hP6 => ?_
    -- F6r4
    simp (config := { decide := true }) only [F6r4, eng, engc, engt, AOp.mem, true_and, and_true, eq_self, and_self, decide_true, decide_false, reduceIte, Nat.reduceEqDiff, Nat.reduceLeDiff, Nat.reduceAdd, Nat.reduceLT, optS_dgc, optS_dg, optS_isV, optS_clen, optS_agg, optS_take, optS_dg1, zstmt, abin_bb, beq_self_eq_true]
    try simp (disch := omega) only [wrap_id, engd, engt, optS_dgc, optS_dg, optS_isV, optS_clen, optS_agg, optS_take, optS_dg1]
    refine WCall.ret (c16 p m (by omega) hm hm2 []) rfl ?_
    simp (config := { decide := true }) only [eng, engc, engt, AOp.mem, true_and, and_true, eq_self, and_self, decide_true, decide_false, reduceIte, Nat.reduceEqDiff, Nat.reduceLeDiff, Nat.reduceAdd, Nat.reduceLT, optS_dgc, optS_dg, optS_isV, optS_clen, optS_agg, optS_take, optS_dg1, zstmt, abin_bb, beq_self_eq_true]
    try simp (disch := omega) only [wrap_id, engd, engt, optS_dgc, optS_dg, optS_isV, optS_clen, optS_agg, optS_take, optS_dg1]
    refine hK6 _ ?_
    simp only [keep_mk, only_cons, only_nil, look_cons, look_nil, reduceIte, Nat.reduceEqDiff, Nat.reduceAdd]
    refine wp_dr (by kernel_rfl) fun K7 hK7 hP7 => ?_
    -- F6r5
    simp (config := { decide := true }) only [F6r5, eng, engc, engt, AOp.mem, true_and, and_true, eq_self, and_self, decide_true, decide_false, reduceIte, Nat.reduceEqDiff, Nat.reduceLeDiff, Nat.reduceAdd, Nat.reduceLT, optS_dgc, optS_dg, optS_isV, optS_clen, optS_agg, optS_take, optS_dg1, zstmt, abin_bb, beq_self_eq_true]
    repeat refine ⟨rfl, ?_⟩
    try simp (disch := omega) only [wrap_id, engd, engt, optS_dgc, optS_dg, optS_isV, optS_clen, optS_agg, optS_take, optS_dg1]
    refine RCall.pure (c17o _ hs []) rfl rfl ?_
    simp (config := { decide := true }) only [eng, engc, engt, AOp.mem, true_and, and_true, eq_self, and_self, decide_true, decide_false, reduceIte, Nat.reduceEqDiff, Nat.reduceLeDiff, Nat.reduceAdd, Nat.reduceLT, optS_dgc, optS_dg, optS_isV, optS_clen, optS_agg, optS_take, optS_dg1, zstmt, abin_bb, beq_self_eq_true]
    try simp (disch := omega) only [wrap_id, engd, engt, optS_dgc, optS_dg, optS_isV, optS_clen, optS_agg, optS_take, optS_dg1]
    repeat refine ⟨rfl, ?_⟩
    try simp (disch := omega) only [wrap_id, engd, engt, optS_dgc, optS_dg, optS_isV, optS_clen, optS_agg, optS_take, optS_dg1]
    refine RCall.pure (c18 p (by omega) []) rfl rfl ?_
    simp (config := { decide := true }) only [eng, engc, engt, AOp.mem, true_and, and_true, eq_self, and_self, decide_true, decide_false, reduceIte, Nat.reduceEqDiff, Nat.reduceLeDiff, Nat.reduceAdd, Nat.reduceLT, optS_dgc, optS_dg, optS_isV, optS_clen, optS_agg, optS_take, optS_dg1, zstmt, abin_bb, beq_self_eq_true]
    try simp (disch := omega) only [wrap_id, engd, engt, optS_dgc, optS_dg, optS_isV, optS_clen, optS_agg, optS_take, optS_dg1]
    repeat refine ⟨rfl, ?_⟩
    try simp (disch := omega) only [wrap_id, engd, engt, optS_dgc, optS_dg, optS_isV, optS_clen, optS_agg, optS_take, optS_dg1]
    refine RCall.pure (c19 p (by omega) []) rfl rfl ?_
    simp (config := { decide := true }) only [eng, engc, engt, AOp.mem, true_and, and_true, eq_self, and_self, decide_true, decide_false, reduceIte, Nat.reduceEqDiff, Nat.reduceLeDiff, Nat.reduceAdd, Nat.reduceLT, optS_dgc, optS_dg, optS_isV, optS_clen, optS_agg, optS_take, optS_dg1, zstmt, abin_bb, beq_self_eq_true]
    try simp (disch := omega) only [wrap_id, engd, engt, optS_dgc, optS_dg, optS_isV, optS_clen, optS_agg, optS_take, optS_dg1]
    repeat refine ⟨rfl, ?_⟩
    try simp (disch := omega) only [wrap_id, engd, engt, optS_dgc, optS_dg, optS_isV, optS_clen, optS_agg, optS_take, optS_dg1]
    refine RCall.pure (known8) rfl rfl ?_
    simp (config := { decide := true }) only [eng, engc, engt, AOp.mem, true_and, and_true, eq_self, and_self, decide_true, decide_false, reduceIte, Nat.reduceEqDiff, Nat.reduceLeDiff, Nat.reduceAdd, Nat.reduceLT, optS_dgc, optS_dg, optS_isV, optS_clen, optS_agg, optS_take, optS_dg1, zstmt, abin_bb, beq_self_eq_true]
    try simp (disch := omega) only [wrap_id, engd, engt, optS_dgc, optS_dg, optS_isV, optS_clen, optS_agg, optS_take, optS_dg1]
    repeat refine ⟨rfl, ?_⟩
    refine hK7 _ ?_
    simp only [keep_mk, only_cons, only_nil, look_cons, look_nil, reduceIte, Nat.reduceEqDiff, Nat.reduceAdd]
    refine wp_ret' ?_
    exact fin_ret1 rfl rfl

end Go.Proofs.Ytmdpemgiidjbcaa.Cd
