/- Texts of this claim, one behind the other. -/
import Derived.Test.YtbidgpchoamdfaaM5
import Derived.Test.YtbidgpchoamdfaaM7
import Derived.Laws.StructEq
/- A ledger behind some calls; records held against records. -/
set_option linter.unusedSimpArgs false
set_option linter.unusedVariables false
namespace Go.Pw
open Go Go.Proofs

theorem done_gn (L : Led) (a : ActV) : (doneL L a).2.n = L.n ∧ (doneL L a).2.goods = L.goods := by
  have on : ∀ (w : Int) (F : Nat → Int × Led), (∀ i, (F i).2.n = L.n ∧ (F i).2.goods = L.goods) → (onC L w F).2.n = L.n ∧ (onC L w F).2.goods = L.goods := fun w F hF => by
    unfold onC; split
    · exact hF _
    · exact ⟨rfl, rfl⟩
  unfold doneL
  repeat' split
  · exact on _ _ fun i => by unfold payL; (repeat' split) <;> exact ⟨rfl, rfl⟩
  · exact on _ _ fun i => by unfold takeL; (repeat' split) <;> exact ⟨rfl, rfl⟩
  · exact on _ _ fun i => by unfold storeL; (repeat' split) <;> exact ⟨rfl, rfl⟩
  · exact on _ _ fun i => by unfold fetchL; (repeat' split) <;> exact ⟨rfl, rfl⟩
  · exact on _ _ fun i => by unfold holdL; (repeat' split) <;> exact ⟨rfl, rfl⟩
  · exact on _ _ fun i => by unfold freeL; (repeat' split) <;> exact ⟨rfl, rfl⟩
  · exact on _ _ fun i => by unfold lockL; (repeat' split) <;> exact ⟨rfl, rfl⟩
  · exact on _ _ fun i => by unfold unlockL; (repeat' split) <;> exact ⟨rfl, rfl⟩
  · exact on _ _ fun i => on _ _ fun j => by unfold moveL; (repeat' split) <;> exact ⟨rfl, rfl⟩
  · exact on _ _ fun i => on _ _ fun j => by unfold handL; (repeat' split) <;> exact ⟨rfl, rfl⟩
  · exact on _ _ fun i => by unfold markL; (repeat' split) <;> exact ⟨rfl, rfl⟩

section
variable {h : PH} {R : AEnd → PH → Prop}
theorem begun_ok {v : Value} {l : List ActV} (hv : ActsAt h v l)
    (hR : ∀ g x b L, Sub h g → LedAt g x b L → Inv L → L.n = 3 → h x = none → h b = none → Zer L → L.goods = 2 → R (.ret (ptr x)) g) : ACalls Try.prog 9 #[v] h R := by
  refine call9 ?_
  unfold sh9
  obtain ⟨p, cap, rfl, _, hel⟩ := hv
  refine new_ok (by omega) (by omega) (by omega) (by omega) fun x b hb hx hne => ?_
  have hL0 : LedAt (ins (ins h b (.cells (ledCells (newLed 3 2)) 66 (0, 0))) x (.cells #[.int .i64 2, .slice (some ⟨b, 0, none⟩) (3 : Int).toNat (3 : Int).toNat] 64 (0, 0))) x b (newLed 3 2) :=
    ⟨ins_eq _ _ _, by rw [ins_ne _ _ (fun e => hne e.symm)]; exact ins_eq _ _ _, hne⟩
  have hs0 : Sub h (ins (ins h b (.cells (ledCells (newLed 3 2)) 66 (0, 0))) x (.cells #[.int .i64 2, .slice (some ⟨b, 0, none⟩) (3 : Int).toNat (3 : Int).toNat] 64 (0, 0))) :=
    Sub.put (Sub.put (Sub.refl h) hb) hx
  revert hL0 hs0
  generalize (ins (ins h b (.cells (ledCells (newLed 3 2)) 66 (0, 0))) x (.cells #[.int .i64 2, .slice (some ⟨b, 0, none⟩) (3 : Int).toNat (3 : Int).toNat] 64 (0, 0))) = g
  intro hL0 hs0
  simp [AEnd.elim, vBin_pnil Try.underlying25]
  refine lf_intro (fun m s' g' => ∃ (i : Nat) (L : Led), s' = .int .i64 i ∧ m = l.length - i ∧ i ≤ l.length ∧ Sub h g' ∧ LedAt g' x b L ∧ Inv L ∧ L.n = 3 ∧ Zer L ∧ L.goods = 2) l.length ⟨0, newLed 3 2, rfl, rfl, by omega, hs0, hL0, inv_new (by omega) (by omega) (by omega), rfl, zer_new, rfl⟩ ?_
  rintro m s' g' ⟨i, L, rfl, rfl, hi, hsub, hL, hinv, hn, hz, hg2⟩
  have out : ∀ (kn : (Value × Value) → Value → PH → Prop) Kp (x0 : Value → PH → Prop) q, ¬ (i < l.length ∧ (i : Int) < 100) → x0 (ptr x) g' → b9_5 Kp x0 (.slice q l.length cap, ptr x) kn (.int .i64 i) g' := by
    intro kn Kp x0 q hno hx0
    unfold b9_5
    by_cases hil : i < l.length
    · have h100 : ¬ (i : Int) < 100 := fun h => hno ⟨hil, h⟩
      simp [hil, h100]
      exact hx0
    · simp [hil]
      exact hx0
  by_cases hil : i < l.length ∧ (i : Int) < 100
  · obtain ⟨hil, h100⟩ := hil
    obtain ⟨a, ha⟩ : ∃ a, l[i]? = some a := ⟨_, List.getElem?_eq_getElem hil⟩
    obtain ⟨b', off, c, e, fr, rfl, hc, hsz, hex⟩ := hel i a ha
    have hgn := done_gn L a
    have key : ∀ (kn : (Value × Value) → Value → PH → Prop) Kp (x0 : Value → PH → Prop), kn (.slice (some ⟨b', off, none⟩) l.length cap, ptr x) (.int .i64 ((i : Int) + 1)) (putLed g' b (doneL L a).2) →
        b9_5 Kp x0 (.slice (some ⟨b', off, none⟩) l.length cap, ptr x) kn (.int .i64 i) g' := by
      intro kn Kp x0 hk
      unfold b9_5
      simp [hil, h100]
      rw [vLoad_n (hsub _ _ hc) (by simpa using hsz), hex]
      refine done_ok (a := a) hL hinv.small ?_
      simp only [AEnd.elim, vBin_add]
      rw [w64 (by omega) (by omega)]
      exact hk
    exact key _ _ _ ⟨rfl, l.length - (i + 1), by omega, i + 1, (doneL L a).2, rfl, rfl, by omega, Sub.put hsub hb, hL.put hgn.2 hgn.1, inv_done hinv a, by rw [hgn.1]; exact hn, zer_done hz a, by rw [hgn.2]; exact hg2⟩
  · refine out _ _ _ _ hil ?_
    intro r hr
    rw [show r 3 = _ from hr]
    exact hR _ _ _ _ hsub hL hinv hn hx hb hz hg2

set_option maxRecDepth 100000 in
theorem rec_neq {K : Value → Prop} (a b c d : ByteArray) : vBin Try.prog .neq 32 (.agg #[.string a, .string b]) (.agg #[.string c, .string d]) K ↔ K (.bool (!(decide (a = c) && decide (b = d)))) := by
  refine vBin_run fun x y w => ?_
  have u9 := Try.underlying9
  have a9 := Try.isAgg9
  have z9 := Try.sizeOf9
  have hS : Try.prog.underlying 32 = some (.struct (Try.prog.fieldsOf 32)) := by kernel_rfl
  have hp : Try.prog.stoodInHeld 32 = false := by kernel_rfl
  have hg := run_eqGuard_agg (P := Try.prog) w .neq 32 x y #[.string a, .string b] #[.string c, .string d] (by kernel_rfl)
  have he : (Op.equalIn 10000 32 (.agg #[.string a, .string b]) (.agg #[.string c, .string d])).run Try.prog w = .ok (decide (a = c) && decide (b = d)) w := by
    rw [show (10000 : Nat) = 9999 + 1 from rfl, run_equalIn_agg w 9999 32 _ _ hS hp]
    simp only [Program.fieldsOf, Try.underlying32]
    go_simp
    have tl : ∀ x y : ByteArray, (x.toList = y.toList) = (x = y) := fun x y => propext ⟨fun h => by have := str_eq x y; rw [h] at this; simpa using this, fun h => by rw [h]⟩
    simp only [tl]
    by_cases h1 : a = c <;> by_cases h2 : b = d <;> simp [h1, h2]
  rw [Sem.run_bind, hg]
  show (binOp .neq 32 _ _).run Try.prog w = _
  rw [run_neq_struct, he]
  rfl
end
end Go.Pw
/- What a refused call leaves; what a taken call leaves of a third client; records read back. -/
set_option linter.unusedSimpArgs false
set_option linter.unusedVariables false
namespace Go.Pw
open Go Go.Proofs

theorem refused_on {L : Led} {w : Int} {F : Nat → Int × Led} (hF : ∀ i, (F i).1 ≠ 0 → (F i).2 = L) : (onC L w F).1 ≠ 0 → (onC L w F).2 = L := by
  unfold onC; split
  · exact hF _
  · exact fun _ => rfl
theorem refused_same (L : Led) (a : ActV) : (doneL L a).1 ≠ 0 → (doneL L a).2 = L := by
  unfold doneL
  repeat' split
  · exact refused_on fun i => by unfold payL; (repeat' split) <;> simp
  · exact refused_on fun i => by unfold takeL; (repeat' split) <;> simp
  · exact refused_on fun i => by unfold storeL; (repeat' split) <;> simp
  · exact refused_on fun i => by unfold fetchL; (repeat' split) <;> simp
  · exact refused_on fun i => by unfold holdL; (repeat' split) <;> simp
  · exact refused_on fun i => by unfold freeL; (repeat' split) <;> simp
  · exact refused_on fun i => by unfold lockL; (repeat' split) <;> simp
  · exact refused_on fun i => by unfold unlockL; (repeat' split) <;> simp
  · exact refused_on fun i => refused_on fun j => by unfold moveL; (repeat' split) <;> simp
  · exact refused_on fun i => refused_on fun j => by unfold handL; (repeat' split) <;> simp
  · exact refused_on fun i => by unfold markL; (repeat' split) <;> simp

/-- M has of the client i what L has. -/
def sameC (L M : Led) (i : Nat) : Prop := (∀ j, M.f i j = L.f i j) ∧ M.r i = L.r i
theorem sameC_refl (L : Led) (i : Nat) : sameC L L i := ⟨fun _ => rfl, rfl⟩
theorem sameC_set {L M : Led} {i k c : Nat} {v : Int} (h : sameC L M i) (hk : i ≠ k) : sameC L (M.set k c v) i :=
  ⟨fun j => by rw [set_ne (by omega)]; exact h.1 j, h.2⟩
theorem sameC_setR {L M : Led} {i k : Nat} {s : ByteArray} (h : sameC L M i) (hk : i ≠ k) : sameC L (M.setR k s) i :=
  ⟨h.1, by simp only [Led.setR, if_neg hk]; exact h.2⟩
theorem third_on {L : Led} {w : Int} {i : Nat} {F : Nat → Int × Led} (hw : (i : Int) ≠ w) (hF : ∀ k, i ≠ k → sameC L (F k).2 i) : sameC L (onC L w F).2 i := by
  unfold onC; split
  · exact hF _ (by omega)
  · exact sameC_refl L i
theorem third_same (L : Led) (a : ActV) {i : Nat} (hw : (i : Int) ≠ a.who) (ht : (i : Int) ≠ a.to) : sameC L (doneL L a).2 i := by
  unfold doneL
  repeat' split
  · exact third_on hw fun k hk => by unfold payL; (repeat' split) <;> first | exact sameC_refl L i | exact sameC_set (sameC_refl L i) hk
  · exact third_on hw fun k hk => by unfold takeL; (repeat' split) <;> first | exact sameC_refl L i | exact sameC_set (sameC_refl L i) hk
  · exact third_on hw fun k hk => by unfold storeL; (repeat' split) <;> first | exact sameC_refl L i | exact sameC_set (sameC_refl L i) hk
  · exact third_on hw fun k hk => by unfold fetchL; (repeat' split) <;> first | exact sameC_refl L i | exact sameC_set (sameC_refl L i) hk
  · exact third_on hw fun k hk => by unfold holdL; (repeat' split) <;> first | exact sameC_refl L i | exact sameC_set (sameC_refl L i) hk
  · exact third_on hw fun k hk => by unfold freeL; (repeat' split) <;> first | exact sameC_refl L i | exact sameC_set (sameC_refl L i) hk
  · exact third_on hw fun k hk => by unfold lockL; (repeat' split) <;> first | exact sameC_refl L i | exact sameC_set (sameC_refl L i) hk
  · exact third_on hw fun k hk => by unfold unlockL; (repeat' split) <;> first | exact sameC_refl L i | exact sameC_set (sameC_refl L i) hk
  · exact third_on hw fun k hk => third_on ht fun j hj => by unfold moveL moveTo; (repeat' split) <;> first | exact sameC_refl L i | exact sameC_set (sameC_set (sameC_set (sameC_refl L i) hk) hk) hj
  · exact third_on hw fun k hk => third_on ht fun j hj => by unfold handL handTo; (repeat' split) <;> first | exact sameC_refl L i | exact sameC_set (sameC_set (sameC_set (sameC_refl L i) hk) hk) hj
  · exact third_on hw fun k hk => by unfold markL; (repeat' split) <;> first | exact sameC_refl L i | exact sameC_setR (sameC_set (sameC_refl L i) hk) hk
theorem payB_same {L M : Led} {i : Nat} (h : sameC L M i) (hg : M.goods = L.goods) : payB M i = payB L i := by
  unfold payB numsOf
  rw [hg, h.2]
  simp only [h.1]

theorem recCells_get (L : Led) : ∀ (n i : Nat), i < n → (recCells L n)[i * 2]? = some (.string (keyB i)) ∧ (recCells L n)[i * 2 + 1]? = some (.string ⟨(payB L i).toArray⟩)
  | 0, i, h => absurd h (by omega)
  | n + 1, i, h => by
    have hl := recCells_len L n
    rw [recCells_succ]
    by_cases e : i = n
    · subst e
      rw [List.getElem?_append_right (by omega), List.getElem?_append_right (by omega), hl]
      rw [show i * 2 - i * 2 = 0 by omega, show i * 2 + 1 - i * 2 = 1 by omega]
      exact ⟨rfl, rfl⟩
    · rw [List.getElem?_append_left (by omega), List.getElem?_append_left (by omega)]
      exact recCells_get L n i (by omega)

section
variable {h h0 g : PH} {e : TypeId} {esz n : Nat} {l : List Value} {s : Value}
theorem OB.base (hw : OB e esz h0 n l h s) (hs : Sub g h0) : OB e esz g n l h s :=
  ⟨hs.trans hw.sub, hw.len, by
    rcases hw.buf with a | ⟨b, c, cap, a1, a2, a3, a4⟩
    · exact .inl a
    · exact .inr ⟨b, c, cap, a1, a2, hs.fresh a3, a4⟩⟩
/-- A block of the old memory is written: the slice stays. -/
theorem OB.put (hw : OB e esz h0 n l h s) {b : Nat} {o p : Obj} (hb : h0 b = some p) (hs : Sub g h0) (hg : g b = none) : OB e esz g n l (ins h b o) s :=
  ⟨Sub.put (hs.trans hw.sub) hg, hw.len, by
    rcases hw.buf with a | ⟨q, c, cap, a1, a2, a3, a4⟩
    · exact .inl a
    · have hq : q ≠ b := fun e => by rw [e, hb] at a3; cases a3
      exact .inr ⟨q, c, cap, a1, by rw [ins_ne _ _ hq]; exact a2, hs.fresh a3, a4⟩⟩
theorem rec_ld {L : Led} (hw : OB 32 2 h0 n (recCells L n) h s) (hn : 0 < n) : ∃ q cap, s = .slice (some ⟨q, 0, none⟩) n cap ∧
    ∀ i, i < n → ∀ K : Value → Prop, vLoad (some 2) (.pointer (some ⟨q, i * 2, none⟩)) h K ↔ K (.agg #[.string (keyB i), .string ⟨(payB L i).toArray⟩]) := by
  obtain ⟨q, c, cap, hs, hq, hsz, hget⟩ := ob_get hw hn
  refine ⟨q, cap, hs, fun i hi K => ?_⟩
  obtain ⟨g1, g2⟩ := recCells_get L n i hi
  rw [vLoad_n hq (by omega)]
  have : c.extract (i * 2) (i * 2 + 2) = #[.string (keyB i), .string ⟨(payB L i).toArray⟩] := by
    apply Array.ext_getElem?
    intro j
    rw [Array.getElem?_extract]
    rcases Nat.lt_or_ge j 2 with hj | hj
    · rw [if_pos (by omega), hget _ (by omega)]
      match j, hj with
      | 0, _ => exact g1
      | 1, _ => exact g2
    · rw [if_neg (by omega), Array.getElem?_eq_none (by simpa using hj)]
  rw [this]
theorem ActsAt.sub {v : Value} {l : List ActV} (hv : ActsAt h v l) (hs : Sub h g) : ActsAt g v l := by
  obtain ⟨p, cap, a, a', b⟩ := hv
  refine ⟨p, cap, a, a', fun i x hx => ?_⟩
  obtain ⟨q, off, c, e, fr, b1, b2, b3⟩ := b i x hx
  exact ⟨q, off, c, e, fr, b1, hs _ _ b2, b3⟩
end

section
variable {h : PH} {R : AEnd → PH → Prop}
theorem refused_ok {v : Value} {l : List ActV} (hv : ActsAt h v l) (a : ActV) (hR : R (.ret (.bool true)) h) : ACalls Try.prog 3 #[v, a.v] h R := by
  refine ACalls.drop (call3 ?_)
  unfold sh3
  refine vNew_i fun c hc => ?_
  simp only [ActV.v, Value.cells]
  have hs1 : Sub h (ins h c (.cells a.cells 24 (0, 0))) := sub_ins _ hc
  have hc1 : ins h c (.cells a.cells 24 (0, 0)) c = some (.cells a.cells 24 (0, 0)) := ins_eq _ _ _
  revert hs1 hc1
  generalize ins h c (.cells a.cells 24 (0, 0)) = h1
  intro hs1 hc1
  refine begun_ok (hv.sub hs1) fun g x b L hsub hL hinv hn hx hb _ _ => ?_
  simp [AEnd.elim, vBin_pnil Try.underlying25]
  refine records_ok hL hinv fun g2 s1 ob1 => ?_
  simp only [AEnd.elim]
  rw [hn] at ob1
  rw [vLoad_n (ob1.sub _ _ (hsub _ _ hc1)) (by simp [ActV.cells]), show Value.agg (a.cells.extract 0 (0 + 6)) = a.v from rfl]
  have hL2 : LedAt g2 x b L := hL.sub ob1.sub
  refine done_ok (a := a) hL2 hinv.small ?_
  simp only [AEnd.elim]
  have hgn := done_gn L a
  have ref := refused_same L a
  have thi := fun i => third_same L a (i := i)
  have hinv' := inv_done hinv a
  have obx : OB 32 2 h1 3 (recCells L 3) (putLed g2 b (doneL L a).2) s1 := ob1.put hL.hb hsub hb
  have hL3 : LedAt (putLed g2 b (doneL L a).2) x b (doneL L a).2 := hL2.put hgn.2 hgn.1
  generalize hM : (doneL L a).2 = M at *
  generalize (doneL L a).1 = er at *
  refine records_ok hL3 hinv' fun g4 s2 ob2 => ?_
  rw [hgn.1, hn] at ob2
  have ob1' := obx.up ob2.sub
  have hsub4 : Sub h1 g4 := obx.sub.trans ob2.sub
  obtain ⟨rb1, cap1, rfl, ld1⟩ := rec_ld ob1' (by omega)
  obtain ⟨rb2, cap2, rfl, ld2⟩ := rec_ld ob2 (by omega)
  simp [AEnd.elim]
  refine lf_intro (fun m s' g' => ∃ i : Nat, s' = (.bool false, .int .i64 i) ∧ m = 3 - i ∧ i ≤ 3 ∧ g' = g4) 3 ⟨0, rfl, rfl, by omega, rfl⟩ ?_
  rintro m s' g' ⟨i, rfl, rfl, hi, rfl⟩
  have q1 : a.cells[1]? = some (.int .i64 a.who) := rfl
  have q2 : a.cells[2]? = some (.int .i64 a.to) := rfl
  by_cases h3 : i < 3
  · have l1 := fun K => ld1 i h3 K
    have l2 := fun K => ld2 i h3 K
    have h3' : (i : Int) < 3 := by omega
    obtain ⟨bw, hbw⟩ : ∃ bw, bw = decide ((i : Int) = a.who) := ⟨_, rfl⟩
    obtain ⟨bt, hbt⟩ : ∃ bt, bt = decide ((i : Int) = a.to) := ⟨_, rfl⟩
    obtain ⟨be, hbe⟩ : ∃ be, be = decide (er = 0) := ⟨_, rfl⟩
    have nw : ∀ {K : Value → Prop}, vBin Try.prog .neq 3 (.int .i64 i) (.int .i64 a.who) K ↔ K (.bool !bw) := fun {K} => by rw [hbw]; exact vBin_neq _ _ _ _
    have nt : ∀ {K : Value → Prop}, vBin Try.prog .neq 3 (.int .i64 i) (.int .i64 a.to) K ↔ K (.bool !bt) := fun {K} => by rw [hbt]; exact vBin_neq _ _ _ _
    have ne : ∀ {K : Value → Prop}, vBin Try.prog .neq 29 (.int .i64 er) (.int .i64 0) K ↔ K (.bool !be) := fun {K} => by rw [hbe]; exact vBin_neq _ _ _ _
    have hsame : be = false ∨ (bw = false ∧ bt = false) → payB M i = payB L i := fun hh => by
      rcases hh with hh | ⟨hh1, hh2⟩
      · rw [ref (by rw [hh] at hbe; simpa using hbe.symm)]
      · exact payB_same (thi i (by rw [hh1] at hbw; simpa using hbw.symm) (by rw [hh2] at hbt; simpa using hbt.symm)) hgn.2
    have key : ∀ (kn : (Value × Value × Value × Value) → (Value × Value) → PH → Prop) Kp (x0 xr : Value → PH → Prop), kn (.pointer (some ⟨c, 0, none⟩), .slice (some ⟨rb1, 0, none⟩) 3 cap1, .int .i64 er, .slice (some ⟨rb2, 0, none⟩) 3 cap2) (.bool false, .int .i64 ((i : Int) + 1)) g' →
        b3_10 Kp x0 xr (.pointer (some ⟨c, 0, none⟩), .slice (some ⟨rb1, 0, none⟩) 3 cap1, .int .i64 er, .slice (some ⟨rb2, 0, none⟩) 3 cap2) kn (.bool false, .int .i64 i) g' := by
      intro kn Kp x0 xr hk
      unfold b3_10
      clear hbw hbt hbe
      have hw64 : IntKind.i64.wrap ((i : Int) + 1) = (i : Int) + 1 := w64 (by omega) (by omega)
      cases bw <;> cases bt <;> cases be
      · have hp := hsame (by simp); simp [-vBin_neq, h3', h3, vLoad_1 (hsub4 _ _ hc1) q1, vLoad_1 (hsub4 _ _ hc1) q2, nw, nt, ne, l1, l2, rec_neq, hw64, hp]; exact hk
      · have hp := hsame (by simp); simp [-vBin_neq, h3', h3, vLoad_1 (hsub4 _ _ hc1) q1, vLoad_1 (hsub4 _ _ hc1) q2, nw, nt, ne, l1, l2, rec_neq, hw64, hp]; exact hk
      · have hp := hsame (by simp); simp [-vBin_neq, h3', h3, vLoad_1 (hsub4 _ _ hc1) q1, vLoad_1 (hsub4 _ _ hc1) q2, nw, nt, ne, l1, l2, rec_neq, hw64, hp]; exact hk
      · simp [-vBin_neq, h3', h3, vLoad_1 (hsub4 _ _ hc1) q1, vLoad_1 (hsub4 _ _ hc1) q2, nw, nt, ne, l1, l2, rec_neq, hw64]; exact hk
      · have hp := hsame (by simp); simp [-vBin_neq, h3', h3, vLoad_1 (hsub4 _ _ hc1) q1, vLoad_1 (hsub4 _ _ hc1) q2, nw, nt, ne, l1, l2, rec_neq, hw64, hp]; exact hk
      · simp [-vBin_neq, h3', h3, vLoad_1 (hsub4 _ _ hc1) q1, vLoad_1 (hsub4 _ _ hc1) q2, nw, nt, ne, l1, l2, rec_neq, hw64]; exact hk
      · have hp := hsame (by simp); simp [-vBin_neq, h3', h3, vLoad_1 (hsub4 _ _ hc1) q1, vLoad_1 (hsub4 _ _ hc1) q2, nw, nt, ne, l1, l2, rec_neq, hw64, hp]; exact hk
      · simp [-vBin_neq, h3', h3, vLoad_1 (hsub4 _ _ hc1) q1, vLoad_1 (hsub4 _ _ hc1) q2, nw, nt, ne, l1, l2, rec_neq, hw64]; exact hk
    exact key _ _ _ _ ⟨rfl, 3 - (i + 1), by omega, i + 1, rfl, rfl, by omega, rfl⟩
  · have e3 : i = 3 := by omega
    subst e3
    unfold b3_10
    simp
    intro r hr
    refine awake_ok ?_
    simp only [AEnd.elim]
    exact ⟨h, hs1.trans hsub4, hR⟩
end
end Go.Pw
/- Calls and their opposites; records held against records. -/
set_option linter.unusedSimpArgs false
set_option linter.unusedVariables false
namespace Go.Pw
open Go Go.Proofs

theorem set_back {L : Led} {i j : Nat} {u v : Int} (h : v = L.f i j) : (L.set i j u).set i j v = L := by
  subst h
  cases L with
  | mk goods n f r =>
    simp only [Led.set, Led.mk.injEq, true_and, and_true]
    funext a c
    by_cases e : a = i ∧ c = j
    · obtain ⟨rfl, rfl⟩ := e; simp
    · simp [e]

section
variable {L : Led} {i : Nat} {g n : Int}
theorem partE_set {j : Nat} {v : Int} : partE (L.set i j v) g n = partE L g n := rfl
theorem back_pay (h : Inv L) (hi : i < L.n) (h0 : (payL L i n).1 = 0) : takeL (payL L i n).2 i n = (0, L) := by
  unfold payL at h0 ⊢
  split at h0
  · cases h0
  · rename_i hp
    split at h0
    · cases h0
    · rename_i hc
      rw [if_neg hp, if_neg hc]
      have := h.held i hi
      unfold takeL
      simp only
      rw [partE_set, if_neg hp, set_eq, set_ne (by omega), if_neg (by omega), set_back (by omega)]
theorem back_store (h : Inv L) (hi : i < L.n) (h0 : (storeL L i g n).1 = 0) : fetchL (storeL L i g n).2 i g n = (0, L) := by
  unfold storeL at h0 ⊢
  split at h0
  · cases h0
  · rename_i hp
    split at h0
    · cases h0
    · rename_i hc
      rw [if_neg hp, if_neg hc]
      obtain ⟨m, _, hm, e⟩ := gnat h (Decidable.of_not_not hp)
      have := h.lock i m hi hm
      unfold fetchL
      simp only
      rw [partE_set, if_neg hp, e, set_eq, set_ne (by omega), if_neg (by omega), set_back (by omega)]
theorem back_hold (h : Inv L) (hi : i < L.n) (h0 : (holdL L i n).1 = 0) : freeL (holdL L i n).2 i n = (0, L) := by
  unfold holdL at h0 ⊢
  split at h0
  · cases h0
  · rename_i hp
    split at h0
    · cases h0
    · rename_i hc
      rw [if_neg hp, if_neg hc]
      have := h.pos i 1 hi (by omega)
      unfold freeL
      simp only
      rw [partE_set, if_neg hp, set_eq, if_neg (by omega), set_back (by omega)]
theorem back_lock (h : Inv L) (hi : i < L.n) (h0 : (lockL L i g n).1 = 0) : unlockL (lockL L i g n).2 i g n = (0, L) := by
  unfold lockL at h0 ⊢
  split at h0
  · cases h0
  · rename_i hp
    split at h0
    · cases h0
    · rename_i hc
      rw [if_neg hp, if_neg hc]
      obtain ⟨m, _, hm, e⟩ := gnat h (Decidable.of_not_not hp)
      have := h.pos i (6 + m) hi (by omega)
      unfold unlockL
      simp only
      rw [partE_set, if_neg hp, e, set_eq, if_neg (by omega), set_back (by omega)]
theorem back_on {w : Int} {F : Nat → Int × Led} {G : Led → Nat → Int × Led} (hF : ∀ i, i < L.n → (F i).1 = 0 → (F i).2.n = L.n ∧ G (F i).2 i = (0, L)) (h0 : (onC L w F).1 = 0) :
    onC (onC L w F).2 w (fun i => G (onC L w F).2 i) = (0, L) := by
  by_cases hw : 0 ≤ w ∧ w < L.n
  · obtain ⟨i, rfl⟩ : ∃ i : Nat, w = i := ⟨w.toNat, by omega⟩
    have hi : i < L.n := by omega
    rw [onC_ok hi] at h0 ⊢
    obtain ⟨h1, h2⟩ := hF i hi h0
    rw [onC_ok (by omega)]
    exact h2
  · rw [onC_bad hw] at h0
    cases h0
def kindA (k : Int) (who good n : Int) : ActV := ⟨k, who, 0, good, n, ⟨#[]⟩⟩
theorem rnd_lit : rnd 0 = 0 ∧ rnd 1 = 1 ∧ rnd 2 = 2 ∧ rnd 3 = 3 ∧ rnd 4 = 4 ∧ rnd 5 = 5 ∧ rnd 6 = 6 ∧ rnd 7 = 7 := by decide
theorem back_done (h : Inv L) {who good : Int} (k : Nat) (hk : k < 4) (h0 : (doneL L (kindA (2 * k : Nat) who good n)).1 = 0) :
    doneL (doneL L (kindA (2 * k : Nat) who good n)).2 (kindA (2 * k + 1 : Nat) who good n) = (0, L) := by
  obtain ⟨r0, r1, r2, r3, r4, r5, r6, r7⟩ := rnd_lit
  match k, hk with
  | 0, _ =>
    have e0 : ∀ M, doneL M (kindA (2 * 0 : Nat) who good n) = onC M who fun i => payL M i n := fun M => by simp [doneL, kindA, r0]
    have e1 : ∀ M, doneL M (kindA (2 * 0 + 1 : Nat) who good n) = onC M who fun i => takeL M i n := fun M => by simp [doneL, kindA, r1]
    rw [e0] at h0 ⊢
    rw [e1]
    refine back_on (G := fun M i => takeL M i n) (fun i hi hz => ⟨?_, back_pay h hi hz⟩) h0
    unfold payL; (repeat' split) <;> rfl
  | 1, _ =>
    have e0 : ∀ M, doneL M (kindA (2 * 1 : Nat) who good n) = onC M who fun i => storeL M i good n := fun M => by simp [doneL, kindA, r2]
    have e1 : ∀ M, doneL M (kindA (2 * 1 + 1 : Nat) who good n) = onC M who fun i => fetchL M i good n := fun M => by simp [doneL, kindA, r3]
    rw [e0] at h0 ⊢
    rw [e1]
    refine back_on (G := fun M i => fetchL M i good n) (fun i hi hz => ⟨?_, back_store h hi hz⟩) h0
    unfold storeL; (repeat' split) <;> rfl
  | 2, _ =>
    have e0 : ∀ M, doneL M (kindA (2 * 2 : Nat) who good n) = onC M who fun i => holdL M i n := fun M => by simp [doneL, kindA, r4]
    have e1 : ∀ M, doneL M (kindA (2 * 2 + 1 : Nat) who good n) = onC M who fun i => freeL M i n := fun M => by simp [doneL, kindA, r5]
    rw [e0] at h0 ⊢
    rw [e1]
    refine back_on (G := fun M i => freeL M i n) (fun i hi hz => ⟨?_, back_hold h hi hz⟩) h0
    unfold holdL; (repeat' split) <;> rfl
  | 3, _ =>
    have e0 : ∀ M, doneL M (kindA (2 * 3 : Nat) who good n) = onC M who fun i => lockL M i good n := fun M => by simp [doneL, kindA, r6]
    have e1 : ∀ M, doneL M (kindA (2 * 3 + 1 : Nat) who good n) = onC M who fun i => unlockL M i good n := fun M => by simp [doneL, kindA, r7]
    rw [e0] at h0 ⊢
    rw [e1]
    refine back_on (G := fun M i => unlockL M i good n) (fun i hi hz => ⟨?_, back_lock h hi hz⟩) h0
    unfold lockL; (repeat' split) <;> rfl
end

section
variable {h : PH} {R : AEnd → PH → Prop}
theorem same_ok {h1 h2 : PH} {L M : Led} {n : Nat} {s s' : Value} (h0 : 0 < n) (h16 : n ≤ 16) (hs : OB 32 2 h1 n (recCells L n) h s) (hs' : OB 32 2 h2 n (recCells M n) h s')
    (hT : (∀ i, i < n → payB L i = payB M i) → R (.ret (.bool true)) h) (hF : ¬ (∀ i, i < n → payB L i = payB M i) → R (.ret (.bool false)) h) :
    ACalls Try.prog 13 #[s, s'] h R := by
  refine call13 ?_
  unfold sh13
  obtain ⟨b1, c1, rfl, ld1⟩ := rec_ld hs h0
  obtain ⟨b2, c2, rfl, ld2⟩ := rec_ld hs' h0
  simp
  refine lf_intro (fun m s' g' => ∃ i : Nat, s' = (.bool false, .int .i64 i) ∧ m = n - i ∧ i ≤ n ∧ g' = h ∧ ∀ j, j < i → payB L j = payB M j) n ⟨0, rfl, rfl, by omega, rfl, fun j hj => absurd hj (by omega)⟩ ?_
  rintro m s' g' ⟨i, rfl, rfl, hi, rfl, hall⟩
  by_cases hin : i < n
  · have l1 := fun K => ld1 i hin K
    have l2 := fun K => ld2 i hin K
    have hw : IntKind.i64.wrap ((i : Int) + 1) = (i : Int) + 1 := w64 (by omega) (by omega)
    by_cases he : payB L i = payB M i
    · have key : ∀ (kn : (Value × Value) → (Value × Value) → PH → Prop) Kp x0 xr, kn (.slice (some ⟨b1, 0, none⟩) n c1, .slice (some ⟨b2, 0, none⟩) n c2) (.bool false, .int .i64 ((i : Int) + 1)) g' →
          b13_4 Kp x0 xr (.slice (some ⟨b1, 0, none⟩) n c1, .slice (some ⟨b2, 0, none⟩) n c2) kn (.bool false, .int .i64 i) g' := by
        intro kn Kp x0 xr hk
        unfold b13_4
        simp [hin, l1, l2, rec_neq, he, hw]
        exact hk
      exact key _ _ _ _ ⟨rfl, n - (i + 1), by omega, i + 1, rfl, rfl, by omega, rfl, fun j hj => by
        by_cases e : j = i
        · subst e; exact he
        · exact hall j (by omega)⟩
    · have key : ∀ (kn : (Value × Value) → (Value × Value) → PH → Prop) Kp x0 (xr : Value → PH → Prop), xr (.bool false) g' →
          b13_4 Kp x0 xr (.slice (some ⟨b1, 0, none⟩) n c1, .slice (some ⟨b2, 0, none⟩) n c2) kn (.bool false, .int .i64 i) g' := by
        intro kn Kp x0 xr hk
        unfold b13_4
        simp [hin, l1, l2, rec_neq, he, hw]
        exact hk
      refine key _ _ _ _ ?_
      intro r hr
      rw [show r 4 = _ from hr]
      exact hF fun hh => he (hh i hin)
  · have e : i = n := by omega
    subst e
    unfold b13_4
    simp
    intro r hr
    exact hT hall

theorem backwards_ok {v : Value} {l : List ActV} (hv : ActsAt h v l) (who good n : Int) (hR : R (.ret (.bool true)) h) : ACalls Try.prog 4 #[v, .int .i64 who, .int .i64 good, .int .i64 n] h R := by
  refine ACalls.drop (call4 ?_)
  unfold sh4
  refine begun_ok hv fun g x b L hsub hL hinv hn hx hb _ _ => ?_
  simp [AEnd.elim, vBin_pnil Try.underlying25]
  refine records_ok hL hinv fun g2 s1 ob1 => ?_
  simp only [AEnd.elim]
  rw [hn] at ob1
  have hL2 : LedAt g2 x b L := hL.sub ob1.sub
  have hself : putLed g2 b L = g2 := putLed_self hL2
  have hsub2 : Sub h g2 := hsub.trans ob1.sub
  refine lf_intro (fun m s' g' => ∃ k : Nat, s' = (.bool false, .int .i64 (2 * k : Nat)) ∧ m = 4 - k ∧ k ≤ 4 ∧ g' = g2) 4 ⟨0, rfl, rfl, by omega, rfl⟩ ?_
  rintro m s' g' ⟨k, rfl, rfl, hk, rfl⟩
  by_cases h4 : k < 4
  · have key : ∀ (kn : (Value × Value × Value × Value × Value) → (Value × Value) → PH → Prop) Kp x0 xr, kn (.int .i64 who, .int .i64 good, .int .i64 n, ptr x, s1) (.bool false, .int .i64 ((2 * k : Nat) + 2 : Int)) g' →
        b4_6 Kp x0 xr (.int .i64 who, .int .i64 good, .int .i64 n, ptr x, s1) kn (.bool false, .int .i64 (2 * k : Nat)) g' := by
      intro kn Kp x0 xr hkn
      unfold b4_6
      have h8 : ((2 * k : Nat) : Int) < 8 := by omega
      simp only [vBin_lss, h8, decide_true, dIf_b]
      refine ⟨fun _ => ?_, fun e => absurd e (by simp)⟩
      refine ⟨(kindA (2 * k : Nat) who good n).cells, rfl, ?_⟩
      refine done_ok (a := kindA (2 * k : Nat) who good n) hL2 hinv.small ?_
      have hgn := done_gn L (kindA (2 * k : Nat) who good n)
      by_cases h0 : (doneL L (kindA (2 * k : Nat) who good n)).1 = 0
      · have hbk := back_done (n := n) (who := who) (good := good) hinv k h4 h0
        rw [h0]
        have w1 : IntKind.i64.wrap (((2 * k : Nat) : Int) + 1) = ((2 * k + 1 : Nat) : Int) := by rw [w64 (by omega) (by omega)]; omega
        have w2 : IntKind.i64.wrap (((2 * k : Nat) : Int) + 2) = ((2 * k : Nat) : Int) + 2 := w64 (by omega) (by omega)
        have hL3 : LedAt (putLed g' b (doneL L (kindA (2 * k : Nat) who good n)).2) x b (doneL L (kindA (2 * k : Nat) who good n)).2 := hL2.put hgn.2 hgn.1
        simp only [AEnd.elim, vBin_eql, decide_true, boolOf_b, gq_b, vBin_add, w1, forall_const, ne_eq, not_true_eq_false, false_implies, and_true]
        refine ⟨(kindA (2 * k + 1 : Nat) who good n).cells, rfl, ?_⟩
        refine done_ok (a := kindA (2 * k + 1 : Nat) who good n) hL3 (inv_done hinv _).small ?_
        rw [hbk, putLed_put, hself]
        simp only [AEnd.elim, vBin_neq, decide_true, Bool.not_true, vPick_b, cond_true, dIf_b, Bool.false_eq_true, false_implies, true_and, forall_const, w2]
        exact hkn
      · rw [refused_same _ _ h0, hself]
        have w2 : IntKind.i64.wrap (((2 * k : Nat) : Int) + 2) = ((2 * k : Nat) : Int) + 2 := w64 (by omega) (by omega)
        simp only [AEnd.elim, vBin_eql, h0, decide_false, boolOf_b, gq_b, Bool.false_eq_true, false_implies, ne_eq, not_false_eq_true, true_and, forall_const, boolOf_u, gq_n, vPick_b, cond_false, dIf_b, vBin_add, w2]
        exact hkn
    exact key _ _ _ _ ⟨rfl, 4 - (k + 1), by omega, k + 1, by simp; omega, rfl, by omega, rfl⟩
  · have e4 : k = 4 := by omega
    subst e4
    unfold b4_6
    simp
    intro r hr
    simp only [Prod.mk.injEq] at hr
    obtain ⟨r8, r9, r10⟩ := hr
    rw [r9, r10]
    refine records_ok hL2 hinv fun g4 s2 ob2 => ?_
    rw [hn] at ob2
    simp only [AEnd.elim]
    refine same_ok (by omega) (by omega) ob2 (ob1.up ob2.sub) (fun _ => ?_) (fun hh => absurd (fun _ _ => rfl) hh)
    simp [AEnd.elim]
    refine awake_ok ?_
    simp [AEnd.elim]
    exact ⟨h, hsub2.trans ob2.sub, hR⟩
end
end Go.Pw
/- Records tell all: two ledgers' records are the same just if all that is told of them is. -/
set_option linter.unusedSimpArgs false
set_option linter.unusedVariables false
namespace Go.Pw
open Go Go.Proofs

theorem u8_inj {a b : Nat} (ha : a < 256) (hb : b < 256) (h : UInt8.ofNat a = UInt8.ofNat b) : a = b := by
  have := congrArg UInt8.toNat h
  rw [UInt8.toNat_ofNat', UInt8.toNat_ofNat'] at this
  omega
theorem encN_inj (a : Nat) : ∀ (b : Nat) (x y : List UInt8), encN a ++ x = encN b ++ y → a = b ∧ x = y := by
  induction a using Nat.strongRecOn with
  | _ a ih =>
    intro b x y h
    by_cases ha : a < 128
    · by_cases hb : b < 128
      · rw [encN_small ha, encN_small hb] at h
        simp only [List.cons_append, List.nil_append, List.cons.injEq] at h
        exact ⟨u8_inj (by omega) (by omega) h.1, h.2⟩
      · rw [encN_small ha, encN_big hb] at h
        simp only [List.cons_append, List.nil_append, List.cons.injEq] at h
        have := u8_inj (by omega) (by omega) h.1
        omega
    · by_cases hb : b < 128
      · rw [encN_big ha, encN_small hb] at h
        simp only [List.cons_append, List.nil_append, List.cons.injEq] at h
        have := u8_inj (by omega) (by omega) h.1
        omega
      · rw [encN_big ha, encN_big hb] at h
        simp only [List.cons_append, List.cons.injEq] at h
        have h1 := u8_inj (by omega) (by omega) h.1
        obtain ⟨h2, h3⟩ := ih (a / 128) (by omega) _ _ _ h.2
        exact ⟨by omega, h3⟩
theorem encL_inj : ∀ (l m : List Int) (x y : List UInt8), l.length = m.length → (∀ v ∈ l, 0 ≤ v) → (∀ v ∈ m, 0 ≤ v) → encL l ++ x = encL m ++ y → l = m ∧ x = y
  | [], [], x, y, _, _, _, h => ⟨rfl, by simpa [encL] using h⟩
  | [], _ :: _, _, _, h, _, _, _ => by simp at h
  | _ :: _, [], _, _, h, _, _, _ => by simp at h
  | a :: l, c :: m, x, y, hl, h1, h2, h => by
    simp only [encL, List.flatMap_cons, List.append_assoc] at h
    obtain ⟨e1, e2⟩ := encN_inj _ _ _ _ h
    have ha := h1 a (by simp)
    have hc := h2 c (by simp)
    obtain ⟨e3, e4⟩ := encL_inj l m x y (by simpa using hl) (fun v hv => h1 v (by simp [hv])) (fun v hv => h2 v (by simp [hv])) e2
    exact ⟨by rw [e3, show a = c by omega], e4⟩

/-- All that is told of the client i is the same. -/
def told (L M : Led) (i : Nat) : Prop := (∀ j, j < 10 → L.f i j = M.f i j) ∧ L.f i 10 = M.f i 10 ∧ L.r i = M.r i
theorem pay_told {L M : Led} {i : Nat} (hL : Inv L) (hM : Inv M) (zL : Zer L) (zM : Zer M) (g1 : L.goods = 2) (g2 : M.goods = 2) (i1 : i < L.n) (i2 : i < M.n) : payB L i = payB M i ↔ told L M i := by
  have n1 : numsOf L i = [L.f i 10, L.f i 0, L.f i 1, L.f i 2, L.f i 3, L.f i 6, L.f i 7] := by unfold numsOf; rw [g1]; rfl
  have n2 : numsOf M i = [M.f i 10, M.f i 0, M.f i 1, M.f i 2, M.f i 3, M.f i 6, M.f i 7] := by unfold numsOf; rw [g2]; rfl
  constructor
  · intro h
    unfold payB at h
    obtain ⟨h1, h2⟩ := encL_inj _ _ _ _ (by rw [n1, n2]; rfl) (fun v hv => (numsOf_bd hL i1 v hv).1) (fun v hv => (numsOf_bd hM i2 v hv).1) h
    obtain ⟨_, h3⟩ := encN_inj _ _ _ _ h2
    rw [n1, n2] at h1
    simp only [List.cons.injEq, and_true] at h1
    obtain ⟨a10, a0, a1, a2, a3, a6, a7⟩ := h1
    have z1 := zL i 2 i1 (by omega) (by omega)
    have z2 := zL i 3 i1 (by omega) (by omega)
    have z3 := zM i 2 i2 (by omega) (by omega)
    have z4 := zM i 3 i2 (by omega) (by omega)
    have y1 := hL.lock i 2 i1 (by omega)
    have y2 := hL.lock i 3 i1 (by omega)
    have y3 := hM.lock i 2 i2 (by omega)
    have y4 := hM.lock i 3 i2 (by omega)
    have x1 := hL.pos i 8 i1 (by omega)
    have x2 := hL.pos i 9 i1 (by omega)
    have x3 := hM.pos i 8 i2 (by omega)
    have x4 := hM.pos i 9 i2 (by omega)
    refine ⟨fun j hj => ?_, a10, ByteArray.ext (Array.toList_inj.1 h3)⟩
    match j, hj with
    | 0, _ => exact a0
    | 1, _ => exact a1
    | 2, _ => exact a2
    | 3, _ => exact a3
    | 4, _ => exact z1.trans z3.symm
    | 5, _ => exact z2.trans z4.symm
    | 6, _ => exact a6
    | 7, _ => exact a7
    | 8, _ => simp only [Nat.reduceAdd] at y1 y3 z1 z3; omega
    | 9, _ => simp only [Nat.reduceAdd] at y2 y4 z2 z4; omega
  · rintro ⟨h1, h2, h3⟩
    unfold payB
    rw [n1, n2, h2, h3, h1 0 (by omega), h1 1 (by omega), h1 2 (by omega), h1 3 (by omega), h1 6 (by omega), h1 7 (by omega)]
end Go.Pw
/- Accounts held against accounts. -/
set_option linter.unusedSimpArgs false
set_option linter.unusedVariables false
namespace Go.Pw
open Go Go.Proofs

theorem eq_i4 (d : Nat) (a0 a1 a2 a3 b0 b1 b2 b3 : Int) (w : World) :
    (Op.equalIn (d + 2) 37 (.agg #[.int .i64 a0, .int .i64 a1, .int .i64 a2, .int .i64 a3]) (.agg #[.int .i64 b0, .int .i64 b1, .int .i64 b2, .int .i64 b3])).run Try.prog w =
      .ok (decide (a0 = b0) && (decide (a1 = b1) && (decide (a2 = b2) && decide (a3 = b3)))) w := by
  have u3 := Try.underlying3
  have a3' := Try.isAgg3
  have z3 := Try.sizeOf3
  rw [show d + 2 = (d + 1) + 1 from rfl, Op.equalIn]
  simp only [Sem.run_bind, run_underlying Try.underlying37, Result.andThen_ok]
  simp only [Std.Legacy.Range.forIn_eq_forIn_range', Std.Legacy.Range.size, Nat.sub_zero, Nat.add_sub_cancel, Nat.div_one, List.range'_succ, List.range'_zero, List.forIn_cons, List.forIn_nil]
  go_simp
  by_cases h0 : a0 = b0
  · by_cases h1 : a1 = b1
    · by_cases h2 : a2 = b2
      · by_cases h3 : a3 = b3 <;> simp [h0, h1, h2, h3]
      · simp [h0, h1, h2]
    · simp [h0, h1]
  · simp [h0]

def accB (L M : Led) (i : Nat) : Bool := decide (L.f i 0 = M.f i 0) && (decide (L.f i 1 = M.f i 1) && ((decide (L.f i 2 = M.f i 2) && (decide (L.f i 3 = M.f i 3) && (decide (L.f i 4 = M.f i 4) && decide (L.f i 5 = M.f i 5)))) &&
  (decide (L.f i 6 = M.f i 6) && (decide (L.f i 7 = M.f i 7) && (decide (L.f i 8 = M.f i 8) && decide (L.f i 9 = M.f i 9))))))
set_option maxRecDepth 100000 in
theorem acct_eql {K : Value → Prop} (L M : Led) (i : Nat) : vBin Try.prog .eql 43 (.agg (acctCells L i)) (.agg (acctCells M i)) K ↔ K (.bool (accB L M i)) := by
  refine vBin_run fun x y w => ?_
  have u3 := Try.underlying3
  have a3 := Try.isAgg3
  have z3 := Try.sizeOf3
  have a37 := Try.isAgg37
  have z37 := Try.sizeOf37
  have hS : Try.prog.underlying 43 = some (.struct (Try.prog.fieldsOf 43)) := by kernel_rfl
  have hp : Try.prog.stoodInHeld 43 = false := by kernel_rfl
  have hg := run_eqGuard_agg (P := Try.prog) w .eql 43 x y (acctCells L i) (acctCells M i) (by kernel_rfl)
  have x1 : ∀ L : Led, (acctCells L i).extract 2 (2 + 4) = #[.int .i64 (L.f i 2), .int .i64 (L.f i 3), .int .i64 (L.f i 4), .int .i64 (L.f i 5)] := fun _ => rfl
  have x2 : ∀ L : Led, (acctCells L i).extract 6 (6 + 4) = #[.int .i64 (L.f i 6), .int .i64 (L.f i 7), .int .i64 (L.f i 8), .int .i64 (L.f i 9)] := fun _ => rfl
  have c0 : ∀ L : Led, (acctCells L i)[0]? = some (.int .i64 (L.f i 0)) := fun _ => rfl
  have c1 : ∀ L : Led, (acctCells L i)[1]? = some (.int .i64 (L.f i 1)) := fun _ => rfl
  have q4 := eq_i4 9997
  have he : (Op.equalIn 10000 43 (.agg (acctCells L i)) (.agg (acctCells M i))).run Try.prog w = .ok (accB L M i) w := by
    rw [show (10000 : Nat) = 9999 + 1 from rfl, run_equalIn_agg w 9999 43 _ _ hS hp]
    simp only [Program.fieldsOf, Try.underlying43]
    have c0L := c0 L; have c0M := c0 M; have c1L := c1 L; have c1M := c1 M; have x1L := x1 L; have x1M := x1 M; have x2L := x2 L; have x2M := x2 M
    clear c0 c1 x1 x2 hg
    go_simp
    unfold accB
    by_cases h0 : L.f i 0 = M.f i 0
    · by_cases h1 : L.f i 1 = M.f i 1
      · by_cases h2 : L.f i 2 = M.f i 2
        · by_cases h3 : L.f i 3 = M.f i 3
          · by_cases h4 : L.f i 4 = M.f i 4
            · by_cases h5 : L.f i 5 = M.f i 5
              · by_cases h6 : L.f i 6 = M.f i 6
                · by_cases h7 : L.f i 7 = M.f i 7
                  · by_cases h8 : L.f i 8 = M.f i 8
                    · by_cases h9 : L.f i 9 = M.f i 9
                      · simp [h0, h1, h2, h3, h4, h5, h6, h7, h8, h9]
                      · simp [h0, h1, h2, h3, h4, h5, h6, h7, h8, h9]
                    · simp [h0, h1, h2, h3, h4, h5, h6, h7, h8]
                  · simp [h0, h1, h2, h3, h4, h5, h6, h7]
                · simp [h0, h1, h2, h3, h4, h5, h6]
              · simp [h0, h1, h2, h3, h4, h5]
            · simp [h0, h1, h2, h3, h4]
          · simp [h0, h1, h2, h3]
        · simp [h0, h1, h2]
      · simp [h0, h1]
    · simp [h0]
  rw [Sem.run_bind, hg]
  show (binOp .eql 43 _ _).run Try.prog w = _
  rw [run_eql_struct, he]
  rfl
end Go.Pw
/- Two ledgers have the same records just if all that is told of them is the same. -/
set_option linter.unusedSimpArgs false
set_option linter.unusedVariables false
namespace Go.Pw
open Go Go.Proofs

theorem vBin_beq {P : Program} {K : Value → Prop} {t : TypeId} (hu : P.underlying t = some .bool) (a b : Bool) : vBin P .eql t (.bool a) (.bool b) K ↔ K (.bool (a == b)) :=
  vBin_eq (fun _ _ => pureRun_eqGuard (fun _ h => by cases h) (fun h => by cases h)) rfl (by
    show pureRun P (Op.equalIn (9999 + 1) t _ _) = _
    rw [Op.equalIn]
    exact pureRun_seq (pureRun_underlying hu) rfl)
theorem vSl_60 {K : Value → Prop} {b off len cap : Nat} (h60 : 60 < len) (hc : len ≤ cap) (hk : K (.slice (some ⟨b, off, none⟩) 60 cap)) : vSl 6 none (some (.int .i64 60)) (.slice (some ⟨b, off, none⟩) len cap) K := by
  refine ⟨_, _, _, rfl, .i64, 60, rfl, by omega, by omega, ?_⟩
  have e : ¬ cap = 0 := by omega
  simp only [intBetween, if_neg e, Nat.zero_mul, Nat.sub_zero, Option.map_some]
  exact hk

/-- What the law does with the scripts, cut down to 60 calls. -/
def sameTail (v1 v2 : Value) (h : PH) (R : AEnd → PH → Prop) : Prop :=
  vCall Try.prog 9 #[v1] h (fun t28 h_1 =>
  vCall Try.prog 9 #[v2] h_1 (fun t30 h_2 =>
  vBin Try.prog .eql 25 t28 (.pointer none) fun t32 =>
  gq (boolOf t32) false (fun K =>
  K t30 h_2)
  (fun t34 h_3 =>
  gq (boolOf t32) false (fun K_1 =>
  vBin Try.prog .eql 25 t34 (.pointer none) fun u =>
  K_1 u h_3)
  (fun t35 h_4 =>
  vPick t32 (.bool true) t35 fun t36 =>
  dIf t36 (R (.ret (.bool false)) h_4)
  (lf (b6_10 (fun c h => R (.pan c) h) (fun v h => exq (fun ρ => (ρ 5, ρ 6, ρ 7)) v (fun r h_5 =>
  vCall Try.prog 10 #[(r 5)] h_5 (fun t82 h_6 =>
  vCall Try.prog 10 #[(r 6)] h_6 (fun t84 h_7 =>
  vCall Try.prog 13 #[t82, t84] h_7 (fun t85 h_8 =>
  vBin Try.prog .eql 4 t85 (r 7) fun t87 =>
  gq (boolOf t87) true (fun K_2 =>
  vCall Try.prog 12 #[] h_8 (fun u_1 h_9 =>
  K_2 u_1 h_9)
  (fun c h => R (.pan c) h))
  (fun t89 h_10 =>
  vPick t87 t89 (.bool false) fun t90 =>
  R (.ret t90) h_10) h_8)
  (fun c h => R (.pan c) h))
  (fun c h => R (.pan c) h))
  (fun c h => R (.pan c) h)) h)) (t28, t30) ((.bool true), (.int .i64 0)) h_4)) h_3) h_2)
  (fun c h => R (.pan c) h))
  (fun c h => R (.pan c) h)

section
variable {h : PH} {R : AEnd → PH → Prop}
theorem accB_told {L M : Led} {i : Nat} : (accB L M i && (decide (L.f i 10 = M.f i 10) && decide (L.r i = M.r i))) = true ↔ told L M i := by
  unfold accB told
  simp only [Bool.and_eq_true, decide_eq_true_eq]
  constructor
  · rintro ⟨⟨a0, a1, ⟨a2, a3, a4, a5⟩, a6, a7, a8, a9⟩, h2, h3⟩
    refine ⟨fun j hj => ?_, h2, h3⟩
    match j, hj with
    | 0, _ => exact a0
    | 1, _ => exact a1
    | 2, _ => exact a2
    | 3, _ => exact a3
    | 4, _ => exact a4
    | 5, _ => exact a5
    | 6, _ => exact a6
    | 7, _ => exact a7
    | 8, _ => exact a8
    | 9, _ => exact a9
  · rintro ⟨h1, h2, h3⟩
    exact ⟨⟨h1 0 (by omega), h1 1 (by omega), ⟨h1 2 (by omega), h1 3 (by omega), h1 4 (by omega), h1 5 (by omega)⟩, h1 6 (by omega), h1 7 (by omega), h1 8 (by omega), h1 9 (by omega)⟩, h2, h3⟩

theorem same_round {L M : Led} {x b y c i : Nat} {same : Bool} (hL : LedAt h x b L) (hM : LedAt h y c M) (i1 : i < L.n) (i2 : i < M.n) (h3 : i < 3)
    (kn : (Value × Value) → (Value × Value) → PH → Prop) (Kp : List PanicEntry → PH → Prop) (x0 : (Value × Value × Value) → PH → Prop)
    (hk : ∀ g, Sub h g → kn (ptr x, ptr y) (.bool (same && (accB L M i && (decide (L.f i 10 = M.f i 10) && decide (L.r i = M.r i)))), .int .i64 ((i : Int) + 1)) g) :
    b6_10 Kp x0 (ptr x, ptr y) kn (.bool same, .int .i64 i) h := by
  unfold b6_10
  have h3' : (i : Int) < 3 := by omega
  simp only [vBin_lss, h3', decide_true, dIf_b]
  refine ⟨fun _ => ?_, fun e => absurd e (by simp)⟩
  refine acct_ok hL i1 ?_
  simp only [AEnd.elim, vExt_20, vExt_21]
  refine vNew_i fun p hp => ?_
  refine vStore_to (cs := acctCells L i) (ins_eq _ _ _) (by rfl) (by rfl) (by rfl) ?_
  rw [ins_ins]
  refine acct_ok (hM.sub (sub_ins _ hp)) i2 ?_
  simp only [AEnd.elim, vExt_20, vExt_21]
  refine vNew_i fun q hq => ?_
  obtain ⟨hq1, hqp⟩ := fresh_of hq
  refine vStore_to (cs := acctCells M i) (ins_eq _ _ _) (by rfl) (by rfl) (by rfl) ?_
  rw [ins_ins]
  have hcp : (ins (ins h p (.cells (acctCells L i) 43 (0, 0))) q (.cells (acctCells M i) 43 (0, 0))) p = some (.cells (acctCells L i) 43 (0, 0)) := by
    rw [ins_ne _ _ (fun e => hqp e.symm)]; exact ins_eq _ _ _
  have hcq : (ins (ins h p (.cells (acctCells L i) 43 (0, 0))) q (.cells (acctCells M i) 43 (0, 0))) q = some (.cells (acctCells M i) 43 (0, 0)) := ins_eq _ _ _
  have hsb : Sub h (ins (ins h p (.cells (acctCells L i) 43 (0, 0))) q (.cells (acctCells M i) 43 (0, 0))) := Sub.put (Sub.put (Sub.refl h) hp) hq1
  revert hcp hcq hsb
  generalize (ins (ins h p (.cells (acctCells L i) 43 (0, 0))) q (.cells (acctCells M i) 43 (0, 0))) = G
  intro hcp hcq hsb
  refine last_ok (hL.sub hsb) i1 ?_
  simp only [AEnd.elim, vExt_20, vExt_21]
  refine last_ok (hM.sub hsb) i2 ?_
  simp only [AEnd.elim, vExt_20, vExt_21]
  have lp : ∀ {K : Value → Prop}, vLoad (some 10) (.pointer (some ⟨p, 0, none⟩)) G K ↔ K (.agg (acctCells L i)) := fun {K} => by rw [vLoad_n hcp (by show 0 + 10 ≤ 10; omega)]; rfl
  have lq : ∀ {K : Value → Prop}, vLoad (some 10) (.pointer (some ⟨q, 0, none⟩)) G K ↔ K (.agg (acctCells M i)) := fun {K} => by rw [vLoad_n hcq (by show 0 + 10 ≤ 10; omega)]; rfl
  have n10 : ∀ {K : Value → Prop}, vBin Try.prog .eql 3 (.int .i64 (L.f i 10)) (.int .i64 (M.f i 10)) K ↔ K (.bool (decide (L.f i 10 = M.f i 10))) := fun {K} => vBin_eql _ _ _ _
  have nr : ∀ {K : Value → Prop}, vBin Try.prog .eql 9 (.string (L.r i)) (.string (M.r i)) K ↔ K (.bool (decide (L.r i = M.r i))) := fun {K} => vBin_seq _ _ _
  have na : ∀ {K : Value → Prop}, vBin Try.prog .eql 43 (.agg (acctCells L i)) (.agg (acctCells M i)) K ↔ K (.bool (accB L M i)) := fun {K} => acct_eql L M i
  have hw : IntKind.i64.wrap ((i : Int) + 1) = (i : Int) + 1 := w64 (by omega) (by omega)
  have hk' := hk G hsb
  clear hk
  revert n10 nr na hk'
  generalize decide (L.f i 10 = M.f i 10) = r2
  generalize decide (L.r i = M.r i) = r3
  generalize accB L M i = r1
  intro n10 nr na hk'
  cases same <;> cases r1 <;> cases r2 <;> cases r3 <;> simp [-vBin_eql, -vBin_seq, lp, lq, n10, nr, na, hw] <;> exact hk'

theorem sameTail_ok {v1 v2 : Value} {l1 l2 : List ActV} (hv1 : ActsAt h v1 l1) (hv2 : ActsAt h v2 l2) (hR : R (.ret (.bool true)) h) : sameTail v1 v2 h fun e h' => ∃ g, Sub g h' ∧ R e g := by
  unfold sameTail
  refine begun_ok hv1 fun g x b L hsub hL hinv hn hx hb hz hg2 => ?_
  simp only [AEnd.elim]
  refine begun_ok (hv2.sub hsub) fun g1 y c M hsub1 hM hinvM hnM hy hc hzM hgM => ?_
  have hL1 : LedAt g1 x b L := hL.sub hsub1
  have hsubs : Sub h g1 := hsub.trans hsub1
  simp [AEnd.elim, vBin_pnil Try.underlying25]
  refine lf_intro (fun m s' g' => ∃ (i : Nat) (same : Bool), s' = (.bool same, .int .i64 i) ∧ m = 3 - i ∧ i ≤ 3 ∧ (same = true ↔ ∀ j, j < i → told L M j) ∧ Sub g1 g') 3 ⟨0, true, rfl, rfl, by omega, ⟨fun _ j hj => absurd hj (by omega), fun _ => rfl⟩, Sub.refl _⟩ ?_
  rintro m s' g' ⟨i, same, rfl, rfl, hi, hsm, hsg⟩
  by_cases h3 : i < 3
  · refine same_round (hL1.sub hsg) (hM.sub hsg) (by omega) (by omega) h3 _ _ _ fun g2 hs2 => ?_
    refine ⟨rfl, 3 - (i + 1), by omega, i + 1, _, rfl, rfl, by omega, ?_, hsg.trans hs2⟩
    rw [Bool.and_eq_true, accB_told, hsm]
    constructor
    · rintro ⟨a1, a2⟩ j hj
      by_cases e : j = i
      · subst e; exact a2
      · exact a1 j (by omega)
    · intro a
      exact ⟨fun j hj => a j (by omega), a i (by omega)⟩
  · have e3 : i = 3 := by omega
    subst e3
    unfold b6_10
    simp
    intro r hr
    simp only [Prod.mk.injEq] at hr
    obtain ⟨r5, r6, r7⟩ := hr
    rw [r5, r6, r7]
    refine records_ok (hL1.sub hsg) hinv fun g4 s2 ob2 => ?_
    simp only [AEnd.elim]
    refine records_ok ((hM.sub hsg).sub ob2.sub) hinvM fun g5 s3 ob3 => ?_
    simp only [AEnd.elim]
    rw [hn] at ob2
    rw [hnM] at ob3
    have hall : (∀ i, i < 3 → payB L i = payB M i) ↔ same = true := by
      rw [hsm]
      exact ⟨fun a j hj => (pay_told hinv hinvM hz hzM hg2 hgM (by omega) (by omega)).1 (a j hj), fun a j hj => (pay_told hinv hinvM hz hzM hg2 hgM (by omega) (by omega)).2 (a j hj)⟩
    have hsub5 : Sub h g5 := ((hsubs.trans hsg).trans ob2.sub).trans ob3.sub
    refine same_ok (by omega) (by omega) (ob2.up ob3.sub) ob3 (fun a => ?_) (fun a => ?_)
    · have e := hall.1 a
      subst e
      simp [AEnd.elim, vBin_beq Try.underlying4]
      refine awake_ok ?_
      simp [AEnd.elim]
      exact ⟨h, hsub5, hR⟩
    · have e : same = false := by
        cases same
        · rfl
        · exact absurd (hall.2 rfl) a
      subst e
      simp [AEnd.elim, vBin_beq Try.underlying4]
      refine awake_ok ?_
      simp [AEnd.elim]
      exact ⟨h, hsub5, hR⟩

theorem acts_60 {v : Value} {l : List ActV} (hv : ActsAt h v l) (h60 : 60 < l.length) {K : Value → Prop} (hk : ∀ v', ActsAt h v' (l.take 60) → K v') : vSl 6 none (some (.int .i64 60)) v K := by
  obtain ⟨p, cap, rfl, hc, hel⟩ := hv
  obtain ⟨b, off, c, e, fr, rfl, _⟩ := hel 0 _ (List.getElem?_eq_getElem (by omega))
  refine vSl_60 h60 hc (hk _ ⟨some ⟨b, off, none⟩, cap, ?_, by rw [List.length_take]; omega, fun i a ha => ?_⟩)
  · rw [List.length_take, Nat.min_eq_left (by omega)]
  · rw [List.getElem?_take] at ha
    split at ha
    · exact hel i a ha
    · cases ha

theorem lsame_ok {v1 v2 : Value} {l1 l2 : List ActV} (hv1 : ActsAt h v1 l1) (hv2 : ActsAt h v2 l2) (hR : R (.ret (.bool true)) h) : ACalls Try.prog 6 #[v1, v2] h R := by
  refine ACalls.drop (call6 ?_)
  unfold sh6
  have len : ∀ {v : Value} {l : List ActV}, ActsAt h v l → ∀ {K : Value → Prop}, vLenS v K ↔ K (.int .i64 l.length) := fun {v l} hv {K} => by
    obtain ⟨p, cap, rfl, _⟩ := hv; exact vLenS_s _ _ _
  rw [len hv1]
  simp only [vBin_gtr, dIf_b, decide_eq_true_eq, decide_eq_false_iff_not, len hv2]
  refine ⟨fun a1 => ?_, fun a1 => ?_⟩
  · refine acts_60 hv1 (by omega) fun v1' hv1' => ?_
    refine ⟨fun a2 => ?_, fun a2 => ?_⟩
    · refine acts_60 hv2 (by omega) fun v2' hv2' => ?_
      exact sameTail_ok hv1' hv2' hR
    · exact sameTail_ok hv1' hv2 hR
  · refine ⟨fun a2 => ?_, fun a2 => ?_⟩
    · refine acts_60 hv2 (by omega) fun v2' hv2' => ?_
      exact sameTail_ok hv1 hv2' hR
    · exact sameTail_ok hv1 hv2 hR
end
end Go.Pw
