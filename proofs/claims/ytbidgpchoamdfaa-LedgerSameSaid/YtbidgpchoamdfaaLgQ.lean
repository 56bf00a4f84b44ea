/- Accounts held against accounts. -/
import Derived.Test.YtbidgpchoamdfaaLgP
set_option linter.unusedSimpArgs false
set_option linter.unusedVariables false
namespace Go.Pw
open Go Go.Proofs

theorem eq_i4 (d : Nat) (a0 a1 a2 a3 b0 b1 b2 b3 : Int) (w : World) :
    (Op.equalIn (d + 2) 37 (.agg #[.int .i64 a0, .int .i64 a1, .int .i64 a2, .int .i64 a3]) (.agg #[.int .i64 b0, .int .i64 b1, .int .i64 b2, .int .i64 b3])).run Try.prog w =
      .ok (decide (a0 = b0) && (decide (a1 = b1) && (decide (a2 = b2) && decide (a3 = b3)))) w := by
  have u3 := Try.underlying3
  have a3' := Try.isAgg3
  have z3 := Try.sizeOf3
  rw [show d + 2 = (d + 1) + 1 from rfl, Op.equalIn]
  simp only [Sem.run_bind, run_underlying Try.underlying37, Result.andThen_ok]
  simp only [Std.Legacy.Range.forIn_eq_forIn_range', Std.Legacy.Range.size, Nat.sub_zero, Nat.add_sub_cancel, Nat.div_one, List.range'_succ, List.range'_zero, List.forIn_cons, List.forIn_nil]
  go_simp
  by_cases h0 : a0 = b0
  · by_cases h1 : a1 = b1
    · by_cases h2 : a2 = b2
      · by_cases h3 : a3 = b3 <;> simp [h0, h1, h2, h3]
      · simp [h0, h1, h2]
    · simp [h0, h1]
  · simp [h0]

def accB (L M : Led) (i : Nat) : Bool := decide (L.f i 0 = M.f i 0) && (decide (L.f i 1 = M.f i 1) && ((decide (L.f i 2 = M.f i 2) && (decide (L.f i 3 = M.f i 3) && (decide (L.f i 4 = M.f i 4) && decide (L.f i 5 = M.f i 5)))) &&
  (decide (L.f i 6 = M.f i 6) && (decide (L.f i 7 = M.f i 7) && (decide (L.f i 8 = M.f i 8) && decide (L.f i 9 = M.f i 9))))))
set_option maxRecDepth 100000 in
theorem acct_eql {K : Value → Prop} (L M : Led) (i : Nat) : vBin Try.prog .eql 43 (.agg (acctCells L i)) (.agg (acctCells M i)) K ↔ K (.bool (accB L M i)) := by
  refine vBin_run fun x y w => ?_
  have u3 := Try.underlying3
  have a3 := Try.isAgg3
  have z3 := Try.sizeOf3
  have a37 := Try.isAgg37
  have z37 := Try.sizeOf37
  have hS : Try.prog.underlying 43 = some (.struct (Try.prog.fieldsOf 43)) := by kernel_rfl
  have hp : Try.prog.stoodInHeld 43 = false := by kernel_rfl
  have hg := run_eqGuard_agg (P := Try.prog) w .eql 43 x y (acctCells L i) (acctCells M i) (by kernel_rfl)
  have x1 : ∀ L : Led, (acctCells L i).extract 2 (2 + 4) = #[.int .i64 (L.f i 2), .int .i64 (L.f i 3), .int .i64 (L.f i 4), .int .i64 (L.f i 5)] := fun _ => rfl
  have x2 : ∀ L : Led, (acctCells L i).extract 6 (6 + 4) = #[.int .i64 (L.f i 6), .int .i64 (L.f i 7), .int .i64 (L.f i 8), .int .i64 (L.f i 9)] := fun _ => rfl
  have c0 : ∀ L : Led, (acctCells L i)[0]? = some (.int .i64 (L.f i 0)) := fun _ => rfl
  have c1 : ∀ L : Led, (acctCells L i)[1]? = some (.int .i64 (L.f i 1)) := fun _ => rfl
  have q4 := eq_i4 9997
  have he : (Op.equalIn 10000 43 (.agg (acctCells L i)) (.agg (acctCells M i))).run Try.prog w = .ok (accB L M i) w := by
    rw [show (10000 : Nat) = 9999 + 1 from rfl, run_equalIn_agg w 9999 43 _ _ hS hp]
    simp only [Program.fieldsOf, Try.underlying43]
    have c0L := c0 L; have c0M := c0 M; have c1L := c1 L; have c1M := c1 M; have x1L := x1 L; have x1M := x1 M; have x2L := x2 L; have x2M := x2 M
    clear c0 c1 x1 x2 hg
    go_simp
    unfold accB
    by_cases h0 : L.f i 0 = M.f i 0
    · by_cases h1 : L.f i 1 = M.f i 1
      · by_cases h2 : L.f i 2 = M.f i 2
        · by_cases h3 : L.f i 3 = M.f i 3
          · by_cases h4 : L.f i 4 = M.f i 4
            · by_cases h5 : L.f i 5 = M.f i 5
              · by_cases h6 : L.f i 6 = M.f i 6
                · by_cases h7 : L.f i 7 = M.f i 7
                  · by_cases h8 : L.f i 8 = M.f i 8
                    · by_cases h9 : L.f i 9 = M.f i 9
                      · simp [h0, h1, h2, h3, h4, h5, h6, h7, h8, h9]
                      · simp [h0, h1, h2, h3, h4, h5, h6, h7, h8, h9]
                    · simp [h0, h1, h2, h3, h4, h5, h6, h7, h8]
                  · simp [h0, h1, h2, h3, h4, h5, h6, h7]
                · simp [h0, h1, h2, h3, h4, h5, h6]
              · simp [h0, h1, h2, h3, h4, h5]
            · simp [h0, h1, h2, h3, h4]
          · simp [h0, h1, h2, h3]
        · simp [h0, h1, h2]
      · simp [h0, h1]
    · simp [h0]
  rw [Sem.run_bind, hg]
  show (binOp .eql 43 _ _).run Try.prog w = _
  rw [run_eql_struct, he]
  rfl
end Go.Pw
