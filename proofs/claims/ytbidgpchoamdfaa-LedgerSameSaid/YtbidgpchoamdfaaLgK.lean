/- A ledger behind some calls; records held against records. -/
import Derived.Test.YtbidgpchoamdfaaLgI
import Derived.Test.YtbidgpchoamdfaaLgO
import Derived.Test.YtbidgpchoamdfaaLgF
import Derived.Laws.StructEq
set_option linter.unusedSimpArgs false
set_option linter.unusedVariables false
namespace Go.Pw
open Go Go.Proofs

theorem done_gn (L : Led) (a : ActV) : (doneL L a).2.n = L.n ∧ (doneL L a).2.goods = L.goods := by
  have on : ∀ (w : Int) (F : Nat → Int × Led), (∀ i, (F i).2.n = L.n ∧ (F i).2.goods = L.goods) → (onC L w F).2.n = L.n ∧ (onC L w F).2.goods = L.goods := fun w F hF => by
    unfold onC; split
    · exact hF _
    · exact ⟨rfl, rfl⟩
  unfold doneL
  repeat' split
  · exact on _ _ fun i => by unfold payL; (repeat' split) <;> exact ⟨rfl, rfl⟩
  · exact on _ _ fun i => by unfold takeL; (repeat' split) <;> exact ⟨rfl, rfl⟩
  · exact on _ _ fun i => by unfold storeL; (repeat' split) <;> exact ⟨rfl, rfl⟩
  · exact on _ _ fun i => by unfold fetchL; (repeat' split) <;> exact ⟨rfl, rfl⟩
  · exact on _ _ fun i => by unfold holdL; (repeat' split) <;> exact ⟨rfl, rfl⟩
  · exact on _ _ fun i => by unfold freeL; (repeat' split) <;> exact ⟨rfl, rfl⟩
  · exact on _ _ fun i => by unfold lockL; (repeat' split) <;> exact ⟨rfl, rfl⟩
  · exact on _ _ fun i => by unfold unlockL; (repeat' split) <;> exact ⟨rfl, rfl⟩
  · exact on _ _ fun i => on _ _ fun j => by unfold moveL; (repeat' split) <;> exact ⟨rfl, rfl⟩
  · exact on _ _ fun i => on _ _ fun j => by unfold handL; (repeat' split) <;> exact ⟨rfl, rfl⟩
  · exact on _ _ fun i => by unfold markL; (repeat' split) <;> exact ⟨rfl, rfl⟩

section
variable {h : PH} {R : AEnd → PH → Prop}
theorem begun_ok {v : Value} {l : List ActV} (hv : ActsAt h v l)
    (hR : ∀ g x b L, Sub h g → LedAt g x b L → Inv L → L.n = 3 → h x = none → h b = none → Zer L → L.goods = 2 → R (.ret (ptr x)) g) : ACalls Try.prog 9 #[v] h R := by
  refine call9 ?_
  unfold sh9
  obtain ⟨p, cap, rfl, _, hel⟩ := hv
  refine new_ok (by omega) (by omega) (by omega) (by omega) fun x b hb hx hne => ?_
  have hL0 : LedAt (ins (ins h b (.cells (ledCells (newLed 3 2)) 66 (0, 0))) x (.cells #[.int .i64 2, .slice (some ⟨b, 0, none⟩) (3 : Int).toNat (3 : Int).toNat] 64 (0, 0))) x b (newLed 3 2) :=
    ⟨ins_eq _ _ _, by rw [ins_ne _ _ (fun e => hne e.symm)]; exact ins_eq _ _ _, hne⟩
  have hs0 : Sub h (ins (ins h b (.cells (ledCells (newLed 3 2)) 66 (0, 0))) x (.cells #[.int .i64 2, .slice (some ⟨b, 0, none⟩) (3 : Int).toNat (3 : Int).toNat] 64 (0, 0))) :=
    Sub.put (Sub.put (Sub.refl h) hb) hx
  revert hL0 hs0
  generalize (ins (ins h b (.cells (ledCells (newLed 3 2)) 66 (0, 0))) x (.cells #[.int .i64 2, .slice (some ⟨b, 0, none⟩) (3 : Int).toNat (3 : Int).toNat] 64 (0, 0))) = g
  intro hL0 hs0
  simp [AEnd.elim, vBin_pnil Try.underlying25]
  refine lf_intro (fun m s' g' => ∃ (i : Nat) (L : Led), s' = .int .i64 i ∧ m = l.length - i ∧ i ≤ l.length ∧ Sub h g' ∧ LedAt g' x b L ∧ Inv L ∧ L.n = 3 ∧ Zer L ∧ L.goods = 2) l.length ⟨0, newLed 3 2, rfl, rfl, by omega, hs0, hL0, inv_new (by omega) (by omega) (by omega), rfl, zer_new, rfl⟩ ?_
  rintro m s' g' ⟨i, L, rfl, rfl, hi, hsub, hL, hinv, hn, hz, hg2⟩
  have out : ∀ (kn : (Value × Value) → Value → PH → Prop) Kp (x0 : Value → PH → Prop) q, ¬ (i < l.length ∧ (i : Int) < 100) → x0 (ptr x) g' → b9_5 Kp x0 (.slice q l.length cap, ptr x) kn (.int .i64 i) g' := by
    intro kn Kp x0 q hno hx0
    unfold b9_5
    by_cases hil : i < l.length
    · have h100 : ¬ (i : Int) < 100 := fun h => hno ⟨hil, h⟩
      simp [hil, h100]
      exact hx0
    · simp [hil]
      exact hx0
  by_cases hil : i < l.length ∧ (i : Int) < 100
  · obtain ⟨hil, h100⟩ := hil
    obtain ⟨a, ha⟩ : ∃ a, l[i]? = some a := ⟨_, List.getElem?_eq_getElem hil⟩
    obtain ⟨b', off, c, e, fr, rfl, hc, hsz, hex⟩ := hel i a ha
    have hgn := done_gn L a
    have key : ∀ (kn : (Value × Value) → Value → PH → Prop) Kp (x0 : Value → PH → Prop), kn (.slice (some ⟨b', off, none⟩) l.length cap, ptr x) (.int .i64 ((i : Int) + 1)) (putLed g' b (doneL L a).2) →
        b9_5 Kp x0 (.slice (some ⟨b', off, none⟩) l.length cap, ptr x) kn (.int .i64 i) g' := by
      intro kn Kp x0 hk
      unfold b9_5
      simp [hil, h100]
      rw [vLoad_n (hsub _ _ hc) (by simpa using hsz), hex]
      refine done_ok (a := a) hL hinv.small ?_
      simp only [AEnd.elim, vBin_add]
      rw [w64 (by omega) (by omega)]
      exact hk
    exact key _ _ _ ⟨rfl, l.length - (i + 1), by omega, i + 1, (doneL L a).2, rfl, rfl, by omega, Sub.put hsub hb, hL.put hgn.2 hgn.1, inv_done hinv a, by rw [hgn.1]; exact hn, zer_done hz a, by rw [hgn.2]; exact hg2⟩
  · refine out _ _ _ _ hil ?_
    intro r hr
    rw [show r 3 = _ from hr]
    exact hR _ _ _ _ hsub hL hinv hn hx hb hz hg2

set_option maxRecDepth 100000 in
theorem rec_neq {K : Value → Prop} (a b c d : ByteArray) : vBin Try.prog .neq 32 (.agg #[.string a, .string b]) (.agg #[.string c, .string d]) K ↔ K (.bool (!(decide (a = c) && decide (b = d)))) := by
  refine vBin_run fun x y w => ?_
  have u9 := Try.underlying9
  have a9 := Try.isAgg9
  have z9 := Try.sizeOf9
  have hS : Try.prog.underlying 32 = some (.struct (Try.prog.fieldsOf 32)) := by kernel_rfl
  have hp : Try.prog.stoodInHeld 32 = false := by kernel_rfl
  have hg := run_eqGuard_agg (P := Try.prog) w .neq 32 x y #[.string a, .string b] #[.string c, .string d] (by kernel_rfl)
  have he : (Op.equalIn 10000 32 (.agg #[.string a, .string b]) (.agg #[.string c, .string d])).run Try.prog w = .ok (decide (a = c) && decide (b = d)) w := by
    rw [show (10000 : Nat) = 9999 + 1 from rfl, run_equalIn_agg w 9999 32 _ _ hS hp]
    simp only [Program.fieldsOf, Try.underlying32]
    go_simp
    have tl : ∀ x y : ByteArray, (x.toList = y.toList) = (x = y) := fun x y => propext ⟨fun h => by have := str_eq x y; rw [h] at this; simpa using this, fun h => by rw [h]⟩
    simp only [tl]
    by_cases h1 : a = c <;> by_cases h2 : b = d <;> simp [h1, h2]
  rw [Sem.run_bind, hg]
  show (binOp .neq 32 _ _).run Try.prog w = _
  rw [run_neq_struct, he]
  rfl
end
end Go.Pw
