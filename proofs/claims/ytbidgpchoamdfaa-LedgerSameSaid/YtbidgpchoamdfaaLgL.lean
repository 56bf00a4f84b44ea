/- What a refused call leaves; what a taken call leaves of a third client; records read back. -/
import Derived.Test.YtbidgpchoamdfaaLgK
set_option linter.unusedSimpArgs false
set_option linter.unusedVariables false
namespace Go.Pw
open Go Go.Proofs

theorem refused_on {L : Led} {w : Int} {F : Nat → Int × Led} (hF : ∀ i, (F i).1 ≠ 0 → (F i).2 = L) : (onC L w F).1 ≠ 0 → (onC L w F).2 = L := by
  unfold onC; split
  · exact hF _
  · exact fun _ => rfl
theorem refused_same (L : Led) (a : ActV) : (doneL L a).1 ≠ 0 → (doneL L a).2 = L := by
  unfold doneL
  repeat' split
  · exact refused_on fun i => by unfold payL; (repeat' split) <;> simp
  · exact refused_on fun i => by unfold takeL; (repeat' split) <;> simp
  · exact refused_on fun i => by unfold storeL; (repeat' split) <;> simp
  · exact refused_on fun i => by unfold fetchL; (repeat' split) <;> simp
  · exact refused_on fun i => by unfold holdL; (repeat' split) <;> simp
  · exact refused_on fun i => by unfold freeL; (repeat' split) <;> simp
  · exact refused_on fun i => by unfold lockL; (repeat' split) <;> simp
  · exact refused_on fun i => by unfold unlockL; (repeat' split) <;> simp
  · exact refused_on fun i => refused_on fun j => by unfold moveL; (repeat' split) <;> simp
  · exact refused_on fun i => refused_on fun j => by unfold handL; (repeat' split) <;> simp
  · exact refused_on fun i => by unfold markL; (repeat' split) <;> simp

/-- M has of the client i what L has. -/
def sameC (L M : Led) (i : Nat) : Prop := (∀ j, M.f i j = L.f i j) ∧ M.r i = L.r i
theorem sameC_refl (L : Led) (i : Nat) : sameC L L i := ⟨fun _ => rfl, rfl⟩
theorem sameC_set {L M : Led} {i k c : Nat} {v : Int} (h : sameC L M i) (hk : i ≠ k) : sameC L (M.set k c v) i :=
  ⟨fun j => by rw [set_ne (by omega)]; exact h.1 j, h.2⟩
theorem sameC_setR {L M : Led} {i k : Nat} {s : ByteArray} (h : sameC L M i) (hk : i ≠ k) : sameC L (M.setR k s) i :=
  ⟨h.1, by simp only [Led.setR, if_neg hk]; exact h.2⟩
theorem third_on {L : Led} {w : Int} {i : Nat} {F : Nat → Int × Led} (hw : (i : Int) ≠ w) (hF : ∀ k, i ≠ k → sameC L (F k).2 i) : sameC L (onC L w F).2 i := by
  unfold onC; split
  · exact hF _ (by omega)
  · exact sameC_refl L i
theorem third_same (L : Led) (a : ActV) {i : Nat} (hw : (i : Int) ≠ a.who) (ht : (i : Int) ≠ a.to) : sameC L (doneL L a).2 i := by
  unfold doneL
  repeat' split
  · exact third_on hw fun k hk => by unfold payL; (repeat' split) <;> first | exact sameC_refl L i | exact sameC_set (sameC_refl L i) hk
  · exact third_on hw fun k hk => by unfold takeL; (repeat' split) <;> first | exact sameC_refl L i | exact sameC_set (sameC_refl L i) hk
  · exact third_on hw fun k hk => by unfold storeL; (repeat' split) <;> first | exact sameC_refl L i | exact sameC_set (sameC_refl L i) hk
  · exact third_on hw fun k hk => by unfold fetchL; (repeat' split) <;> first | exact sameC_refl L i | exact sameC_set (sameC_refl L i) hk
  · exact third_on hw fun k hk => by unfold holdL; (repeat' split) <;> first | exact sameC_refl L i | exact sameC_set (sameC_refl L i) hk
  · exact third_on hw fun k hk => by unfold freeL; (repeat' split) <;> first | exact sameC_refl L i | exact sameC_set (sameC_refl L i) hk
  · exact third_on hw fun k hk => by unfold lockL; (repeat' split) <;> first | exact sameC_refl L i | exact sameC_set (sameC_refl L i) hk
  · exact third_on hw fun k hk => by unfold unlockL; (repeat' split) <;> first | exact sameC_refl L i | exact sameC_set (sameC_refl L i) hk
  · exact third_on hw fun k hk => third_on ht fun j hj => by unfold moveL moveTo; (repeat' split) <;> first | exact sameC_refl L i | exact sameC_set (sameC_set (sameC_set (sameC_refl L i) hk) hk) hj
  · exact third_on hw fun k hk => third_on ht fun j hj => by unfold handL handTo; (repeat' split) <;> first | exact sameC_refl L i | exact sameC_set (sameC_set (sameC_set (sameC_refl L i) hk) hk) hj
  · exact third_on hw fun k hk => by unfold markL; (repeat' split) <;> first | exact sameC_refl L i | exact sameC_setR (sameC_set (sameC_refl L i) hk) hk
theorem payB_same {L M : Led} {i : Nat} (h : sameC L M i) (hg : M.goods = L.goods) : payB M i = payB L i := by
  unfold payB numsOf
  rw [hg, h.2]
  simp only [h.1]

theorem recCells_get (L : Led) : ∀ (n i : Nat), i < n → (recCells L n)[i * 2]? = some (.string (keyB i)) ∧ (recCells L n)[i * 2 + 1]? = some (.string ⟨(payB L i).toArray⟩)
  | 0, i, h => absurd h (by omega)
  | n + 1, i, h => by
    have hl := recCells_len L n
    rw [recCells_succ]
    by_cases e : i = n
    · subst e
      rw [List.getElem?_append_right (by omega), List.getElem?_append_right (by omega), hl]
      rw [show i * 2 - i * 2 = 0 by omega, show i * 2 + 1 - i * 2 = 1 by omega]
      exact ⟨rfl, rfl⟩
    · rw [List.getElem?_append_left (by omega), List.getElem?_append_left (by omega)]
      exact recCells_get L n i (by omega)

section
variable {h h0 g : PH} {e : TypeId} {esz n : Nat} {l : List Value} {s : Value}
theorem OB.base (hw : OB e esz h0 n l h s) (hs : Sub g h0) : OB e esz g n l h s :=
  ⟨hs.trans hw.sub, hw.len, by
    rcases hw.buf with a | ⟨b, c, cap, a1, a2, a3, a4⟩
    · exact .inl a
    · exact .inr ⟨b, c, cap, a1, a2, hs.fresh a3, a4⟩⟩
/-- A block of the old memory is written: the slice stays. -/
theorem OB.put (hw : OB e esz h0 n l h s) {b : Nat} {o p : Obj} (hb : h0 b = some p) (hs : Sub g h0) (hg : g b = none) : OB e esz g n l (ins h b o) s :=
  ⟨Sub.put (hs.trans hw.sub) hg, hw.len, by
    rcases hw.buf with a | ⟨q, c, cap, a1, a2, a3, a4⟩
    · exact .inl a
    · have hq : q ≠ b := fun e => by rw [e, hb] at a3; cases a3
      exact .inr ⟨q, c, cap, a1, by rw [ins_ne _ _ hq]; exact a2, hs.fresh a3, a4⟩⟩
theorem rec_ld {L : Led} (hw : OB 32 2 h0 n (recCells L n) h s) (hn : 0 < n) : ∃ q cap, s = .slice (some ⟨q, 0, none⟩) n cap ∧
    ∀ i, i < n → ∀ K : Value → Prop, vLoad (some 2) (.pointer (some ⟨q, i * 2, none⟩)) h K ↔ K (.agg #[.string (keyB i), .string ⟨(payB L i).toArray⟩]) := by
  obtain ⟨q, c, cap, hs, hq, hsz, hget⟩ := ob_get hw hn
  refine ⟨q, cap, hs, fun i hi K => ?_⟩
  obtain ⟨g1, g2⟩ := recCells_get L n i hi
  rw [vLoad_n hq (by omega)]
  have : c.extract (i * 2) (i * 2 + 2) = #[.string (keyB i), .string ⟨(payB L i).toArray⟩] := by
    apply Array.ext_getElem?
    intro j
    rw [Array.getElem?_extract]
    rcases Nat.lt_or_ge j 2 with hj | hj
    · rw [if_pos (by omega), hget _ (by omega)]
      match j, hj with
      | 0, _ => exact g1
      | 1, _ => exact g2
    · rw [if_neg (by omega), Array.getElem?_eq_none (by simpa using hj)]
  rw [this]
theorem ActsAt.sub {v : Value} {l : List ActV} (hv : ActsAt h v l) (hs : Sub h g) : ActsAt g v l := by
  obtain ⟨p, cap, a, a', b⟩ := hv
  refine ⟨p, cap, a, a', fun i x hx => ?_⟩
  obtain ⟨q, off, c, e, fr, b1, b2, b3⟩ := b i x hx
  exact ⟨q, off, c, e, fr, b1, hs _ _ b2, b3⟩
end

section
variable {h : PH} {R : AEnd → PH → Prop}
theorem refused_ok {v : Value} {l : List ActV} (hv : ActsAt h v l) (a : ActV) (hR : R (.ret (.bool true)) h) : ACalls Try.prog 3 #[v, a.v] h R := by
  refine ACalls.drop (call3 ?_)
  unfold sh3
  refine vNew_i fun c hc => ?_
  simp only [ActV.v, Value.cells]
  have hs1 : Sub h (ins h c (.cells a.cells 24 (0, 0))) := sub_ins _ hc
  have hc1 : ins h c (.cells a.cells 24 (0, 0)) c = some (.cells a.cells 24 (0, 0)) := ins_eq _ _ _
  revert hs1 hc1
  generalize ins h c (.cells a.cells 24 (0, 0)) = h1
  intro hs1 hc1
  refine begun_ok (hv.sub hs1) fun g x b L hsub hL hinv hn hx hb _ _ => ?_
  simp [AEnd.elim, vBin_pnil Try.underlying25]
  refine records_ok hL hinv fun g2 s1 ob1 => ?_
  simp only [AEnd.elim]
  rw [hn] at ob1
  rw [vLoad_n (ob1.sub _ _ (hsub _ _ hc1)) (by simp [ActV.cells]), show Value.agg (a.cells.extract 0 (0 + 6)) = a.v from rfl]
  have hL2 : LedAt g2 x b L := hL.sub ob1.sub
  refine done_ok (a := a) hL2 hinv.small ?_
  simp only [AEnd.elim]
  have hgn := done_gn L a
  have ref := refused_same L a
  have thi := fun i => third_same L a (i := i)
  have hinv' := inv_done hinv a
  have obx : OB 32 2 h1 3 (recCells L 3) (putLed g2 b (doneL L a).2) s1 := ob1.put hL.hb hsub hb
  have hL3 : LedAt (putLed g2 b (doneL L a).2) x b (doneL L a).2 := hL2.put hgn.2 hgn.1
  generalize hM : (doneL L a).2 = M at *
  generalize (doneL L a).1 = er at *
  refine records_ok hL3 hinv' fun g4 s2 ob2 => ?_
  rw [hgn.1, hn] at ob2
  have ob1' := obx.up ob2.sub
  have hsub4 : Sub h1 g4 := obx.sub.trans ob2.sub
  obtain ⟨rb1, cap1, rfl, ld1⟩ := rec_ld ob1' (by omega)
  obtain ⟨rb2, cap2, rfl, ld2⟩ := rec_ld ob2 (by omega)
  simp [AEnd.elim]
  refine lf_intro (fun m s' g' => ∃ i : Nat, s' = (.bool false, .int .i64 i) ∧ m = 3 - i ∧ i ≤ 3 ∧ g' = g4) 3 ⟨0, rfl, rfl, by omega, rfl⟩ ?_
  rintro m s' g' ⟨i, rfl, rfl, hi, rfl⟩
  have q1 : a.cells[1]? = some (.int .i64 a.who) := rfl
  have q2 : a.cells[2]? = some (.int .i64 a.to) := rfl
  by_cases h3 : i < 3
  · have l1 := fun K => ld1 i h3 K
    have l2 := fun K => ld2 i h3 K
    have h3' : (i : Int) < 3 := by omega
    obtain ⟨bw, hbw⟩ : ∃ bw, bw = decide ((i : Int) = a.who) := ⟨_, rfl⟩
    obtain ⟨bt, hbt⟩ : ∃ bt, bt = decide ((i : Int) = a.to) := ⟨_, rfl⟩
    obtain ⟨be, hbe⟩ : ∃ be, be = decide (er = 0) := ⟨_, rfl⟩
    have nw : ∀ {K : Value → Prop}, vBin Try.prog .neq 3 (.int .i64 i) (.int .i64 a.who) K ↔ K (.bool !bw) := fun {K} => by rw [hbw]; exact vBin_neq _ _ _ _
    have nt : ∀ {K : Value → Prop}, vBin Try.prog .neq 3 (.int .i64 i) (.int .i64 a.to) K ↔ K (.bool !bt) := fun {K} => by rw [hbt]; exact vBin_neq _ _ _ _
    have ne : ∀ {K : Value → Prop}, vBin Try.prog .neq 29 (.int .i64 er) (.int .i64 0) K ↔ K (.bool !be) := fun {K} => by rw [hbe]; exact vBin_neq _ _ _ _
    have hsame : be = false ∨ (bw = false ∧ bt = false) → payB M i = payB L i := fun hh => by
      rcases hh with hh | ⟨hh1, hh2⟩
      · rw [ref (by rw [hh] at hbe; simpa using hbe.symm)]
      · exact payB_same (thi i (by rw [hh1] at hbw; simpa using hbw.symm) (by rw [hh2] at hbt; simpa using hbt.symm)) hgn.2
    have key : ∀ (kn : (Value × Value × Value × Value) → (Value × Value) → PH → Prop) Kp (x0 xr : Value → PH → Prop), kn (.pointer (some ⟨c, 0, none⟩), .slice (some ⟨rb1, 0, none⟩) 3 cap1, .int .i64 er, .slice (some ⟨rb2, 0, none⟩) 3 cap2) (.bool false, .int .i64 ((i : Int) + 1)) g' →
        b3_10 Kp x0 xr (.pointer (some ⟨c, 0, none⟩), .slice (some ⟨rb1, 0, none⟩) 3 cap1, .int .i64 er, .slice (some ⟨rb2, 0, none⟩) 3 cap2) kn (.bool false, .int .i64 i) g' := by
      intro kn Kp x0 xr hk
      unfold b3_10
      clear hbw hbt hbe
      have hw64 : IntKind.i64.wrap ((i : Int) + 1) = (i : Int) + 1 := w64 (by omega) (by omega)
      cases bw <;> cases bt <;> cases be
      · have hp := hsame (by simp); simp [-vBin_neq, h3', h3, vLoad_1 (hsub4 _ _ hc1) q1, vLoad_1 (hsub4 _ _ hc1) q2, nw, nt, ne, l1, l2, rec_neq, hw64, hp]; exact hk
      · have hp := hsame (by simp); simp [-vBin_neq, h3', h3, vLoad_1 (hsub4 _ _ hc1) q1, vLoad_1 (hsub4 _ _ hc1) q2, nw, nt, ne, l1, l2, rec_neq, hw64, hp]; exact hk
      · have hp := hsame (by simp); simp [-vBin_neq, h3', h3, vLoad_1 (hsub4 _ _ hc1) q1, vLoad_1 (hsub4 _ _ hc1) q2, nw, nt, ne, l1, l2, rec_neq, hw64, hp]; exact hk
      · simp [-vBin_neq, h3', h3, vLoad_1 (hsub4 _ _ hc1) q1, vLoad_1 (hsub4 _ _ hc1) q2, nw, nt, ne, l1, l2, rec_neq, hw64]; exact hk
      · have hp := hsame (by simp); simp [-vBin_neq, h3', h3, vLoad_1 (hsub4 _ _ hc1) q1, vLoad_1 (hsub4 _ _ hc1) q2, nw, nt, ne, l1, l2, rec_neq, hw64, hp]; exact hk
      · simp [-vBin_neq, h3', h3, vLoad_1 (hsub4 _ _ hc1) q1, vLoad_1 (hsub4 _ _ hc1) q2, nw, nt, ne, l1, l2, rec_neq, hw64]; exact hk
      · have hp := hsame (by simp); simp [-vBin_neq, h3', h3, vLoad_1 (hsub4 _ _ hc1) q1, vLoad_1 (hsub4 _ _ hc1) q2, nw, nt, ne, l1, l2, rec_neq, hw64, hp]; exact hk
      · simp [-vBin_neq, h3', h3, vLoad_1 (hsub4 _ _ hc1) q1, vLoad_1 (hsub4 _ _ hc1) q2, nw, nt, ne, l1, l2, rec_neq, hw64]; exact hk
    exact key _ _ _ _ ⟨rfl, 3 - (i + 1), by omega, i + 1, rfl, rfl, by omega, rfl⟩
  · have e3 : i = 3 := by omega
    subst e3
    unfold b3_10
    simp
    intro r hr
    refine awake_ok ?_
    simp only [AEnd.elim]
    exact ⟨h, hs1.trans hsub4, hR⟩
end
end Go.Pw
