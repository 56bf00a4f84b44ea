/- Chapter 6's example, and the law of the ledger that there is not. -/
import Derived.Test.YtbidgpchoamdfaaLgE
import Derived.KernelRfl
set_option linter.unusedSimpArgs false
set_option linter.unusedVariables false
namespace Go.Pw
open Go Go.Proofs

def aw0 : Led := newLed 2 1
def aw1 : Led := (onC aw0 0 fun i => payL aw0 i 9).2
def aw2 : Led := (onC aw1 0 fun i => holdL aw1 i 5).2
def aw3 : Led := (onC aw2 0 fun i => onC aw2 1 fun j => moveL aw2 i j 3).2
theorem aw0_inv : Inv aw0 := inv_new (by omega) (by omega) (by omega)
theorem aw1_inv : Inv aw1 := inv_on aw0_inv fun i hi => inv_pay aw0_inv hi
theorem aw2_inv : Inv aw2 := inv_on aw1_inv fun i hi => inv_hold aw1_inv hi
theorem aw_e1 : (onC aw0 0 fun i => payL aw0 i 9).1 = 0 := by kernel_rfl
theorem aw_e2 : (onC aw1 0 fun i => holdL aw1 i 5).1 = 0 := by kernel_rfl
theorem aw_e3 : (onC aw2 0 fun i => takeL aw2 i 5) = (61, aw2) := by
  have : onC aw2 0 (fun i => takeL aw2 i 5) = takeL aw2 0 5 := by kernel_rfl
  rw [this]
  unfold takeL
  rw [if_neg (by decide), if_pos (by decide)]
theorem aw_e4 : (onC aw2 0 fun i => onC aw2 1 fun j => moveL aw2 i j 3).1 = 0 := by kernel_rfl

section
variable {h : PH} {R : AEnd → PH → Prop}
theorem awake_ok (hR : R (.ret (.bool true)) h) : ACalls Try.prog 12 #[] h R := by
  refine ACalls.drop (call12 ?_)
  unfold sh12
  refine new_ok (by omega) (by omega) (by omega) (by omega) fun x b hb hx hne => ?_
  have hL0 : LedAt (ins (ins h b (.cells (ledCells (newLed 2 1)) 66 (0, 0))) x (.cells #[.int .i64 1, .slice (some ⟨b, 0, none⟩) (2 : Int).toNat (2 : Int).toNat] 64 (0, 0))) x b aw0 :=
    ⟨ins_eq _ _ _, by rw [ins_ne _ _ (fun e => hne e.symm)]; exact ins_eq _ _ _, hne⟩
  have hs0 : Sub h (ins (ins h b (.cells (ledCells (newLed 2 1)) 66 (0, 0))) x (.cells #[.int .i64 1, .slice (some ⟨b, 0, none⟩) (2 : Int).toNat (2 : Int).toNat] 64 (0, 0))) :=
    Sub.put (Sub.put (Sub.refl h) hb) hx
  revert hL0 hs0
  generalize (ins (ins h b (.cells (ledCells (newLed 2 1)) 66 (0, 0))) x (.cells #[.int .i64 1, .slice (some ⟨b, 0, none⟩) (2 : Int).toNat (2 : Int).toNat] 64 (0, 0))) = g
  intro hL0 hs0
  simp [AEnd.elim, vBin_pnil Try.underlying25]
  refine pay_all hL0 aw0_inv.small ?_
  simp only [aw_e1]
  change AEnd.elim _ _ _ (putLed g b aw1)
  have hL1 : LedAt (putLed g b aw1) x b aw1 := hL0.put rfl rfl
  simp [AEnd.elim]
  refine hold_all hL1 aw1_inv.small ?_
  simp only [aw_e2]
  change AEnd.elim _ _ _ (putLed (putLed g b aw1) b aw2)
  rw [putLed_put]
  have hL2 : LedAt (putLed g b aw2) x b aw2 := hL0.put rfl rfl
  simp [AEnd.elim]
  refine take_all hL2 aw2_inv.small ?_
  simp only [aw_e3]
  rw [putLed_put]
  simp [AEnd.elim]
  refine move_all hL2 aw2_inv.small ?_
  simp only [aw_e4]
  change AEnd.elim _ _ _ (putLed (putLed g b aw2) b aw3)
  rw [putLed_put]
  have hL3 : LedAt (putLed g b aw3) x b aw3 := hL0.put rfl rfl
  have hs3 : Sub h (putLed g b aw3) := Sub.put hs0 hb
  revert hL3 hs3
  generalize putLed g b aw3 = g3
  intro hL3 hs3
  simp [AEnd.elim]
  refine acct_ok (i := 0) hL3 (by decide) ?_
  simp [AEnd.elim]
  refine vNew_i fun c hc => ?_
  have hcc := hs3.fresh hc
  refine vStore_to (ins_eq _ _ _) (by rfl) (by rfl) (by rfl) ?_
  rw [ins_ins]
  refine acct_ok (i := 1) (hL3.sub (sub_ins _ hc)) (by decide) ?_
  simp [AEnd.elim]
  refine vNew_i fun d hd => ?_
  obtain ⟨hd1, hdc⟩ := fresh_of hd
  have hdd := hs3.fresh hd1
  refine vStore_to (ins_eq _ _ _) (by rfl) (by rfl) (by rfl) ?_
  rw [ins_ins]
  have hcg : (ins (ins g3 c (.cells (acctCells aw3 0) 43 (0, 0))) d (.cells (acctCells aw3 1) 43 (0, 0))) c = some (.cells (acctCells aw3 0) 43 (0, 0)) := by
    rw [ins_ne _ _ (fun e => hdc e.symm)]; exact ins_eq _ _ _
  have f0 : (acctCells aw3 0)[0]? = some (.int .i64 6) := by kernel_rfl
  have f1 : (acctCells aw3 0)[1]? = some (.int .i64 2) := by kernel_rfl
  have f2 : (acctCells aw3 1)[0]? = some (.int .i64 3) := by kernel_rfl
  have f3 : (acctCells aw3 1)[1]? = some (.int .i64 0) := by kernel_rfl
  simp [vLoad_1 hcg f0, vLoad_1 hcg f1, vLoad_1 (ins_eq _ d _) f2, vLoad_1 (ins_eq _ d _) f3]
  exact ⟨h, Sub.put (Sub.put hs3 hcc) hdd, hR⟩

theorem zero_eq {K : Value → Prop} : vBin Try.prog .eql 37 (.agg #[.int .i64 0, .int .i64 0, .int .i64 0, .int .i64 0]) (.agg #[.int .i64 0, .int .i64 0, .int .i64 0, .int .i64 0]) K ↔ K (.bool true) :=
  vBin_of (v := .bool true) (fun x y => by kernel_rfl)
theorem nobody_ok (a : ActV) (hR : R (.ret (.bool true)) h) : ACalls Try.prog 5 #[a.v] h R := by
  refine ACalls.drop (call5 ?_)
  unfold sh5
  refine vNew_i fun c hc => ?_
  refine totals_nil ?_
  simp [AEnd.elim]
  refine vNew_i fun d hd => ?_
  obtain ⟨hd1, hdc⟩ := fresh_of hd
  refine vStore_to (ins_eq _ _ _) (by rfl) (by rfl) (by rfl) ?_
  rw [ins_ins]
  simp only [ActV.v, Value.cells]
  have hcg : ∀ o, (ins (ins h c (.cells a.cells 24 (0, 0))) d o) c = some (.cells a.cells 24 (0, 0)) := fun o => by
    rw [ins_ne _ _ (fun e => hdc e.symm)]; exact ins_eq _ _ _
  have q1 : a.cells[1]? = some (.int .i64 a.who) := rfl
  simp [vLoad_1 (hcg _) q1]
  refine last_nil ?_
  simp [AEnd.elim]
  simp [vLoad_1 (hcg _) q1]
  refine acct_nil ?_
  simp [AEnd.elim]
  refine vNew_i fun e he => ?_
  obtain ⟨he1, hed⟩ := fresh_of he
  obtain ⟨he2, hec⟩ := fresh_of he1
  refine vStore_to (ins_eq _ _ _) (by rfl) (by rfl) (by rfl) ?_
  rw [ins_ins]
  have hcg2 : ∀ o p, (ins (ins (ins h c (.cells a.cells 24 (0, 0))) d o) e p) c = some (.cells a.cells 24 (0, 0)) := fun o p => by
    rw [ins_ne _ _ (fun e => hec e.symm)]; exact hcg o
  have hdg : ∀ g o p, (ins (ins g d o) e p) d = some o := fun g o p => by rw [ins_ne _ _ (fun e => hed e.symm)]; exact ins_eq _ _ _
  rw [vLoad_n (hcg2 _ _) (by simp [ActV.cells])]
  have hx : Value.agg (a.cells.extract 0 (0 + 6)) = a.v := rfl
  rw [hx]
  refine done_nil ?_
  simp [AEnd.elim]
  rw [vLoad_n (hdg _ _ _) (by simp)]
  refine ⟨_, rfl, ?_⟩
  have hz : (#[Value.int .i64 0, .int .i64 0, .int .i64 0, .int .i64 0].extract 0 (0 + 4)) = #[Value.int .i64 0, .int .i64 0, .int .i64 0, .int .i64 0] := rfl
  rw [hz]
  simp [zero_eq]
  refine records_nil ?_
  simp [AEnd.elim]
  refine awake_ok ?_
  simp [AEnd.elim]
  exact ⟨h, Sub.put (Sub.put (Sub.put (Sub.refl h) hc) hd1) he2, hR⟩
end
end Go.Pw
