/- Maps from whole numbers to truth; slices of pointers that grow. -/
import Derived.Test.YtgpcjdmiecnphaaGreatPwK
import Derived.Test.YtgpcjdmiecnphaaGreatPwL
import Derived.Test.YtgpcjdmiecnphaaGreatPxM
import Derived.Test.YtgpcjdmiecnphaaGreatProg
import Derived.KernelRfl
set_option linter.unusedSimpArgs false
set_option linter.unusedVariables false
namespace Go.Pw
open Go Go.Proofs
/-- The map b holds these keys, each with true. -/
def KeysAt (b : Nat) (ks : List Int) (h : PH) : Prop := ∃ es clock, h b = some (.map es clock) ∧ es.toList.map (·.key) = ks.map (Value.int .i64) ∧ ∀ e ∈ es.toList, e.val = .bool true
theorem KeysAt.mono (b : Nat) (ks : List Int) : Mono (KeysAt b ks) := fun _ _ hs ⟨es, c, a, r⟩ => ⟨es, c, hs _ _ a, r⟩
theorem find_keys (k : Int) : ∀ (es : List MapEntry) (ks : List Int) (i : Nat), es.map (·.key) = ks.map (Value.int .i64) → (∀ e ∈ es, e.val = .bool true) →
    (k ∈ ks → ∃ j, Instr.findNow (.int .i64) (.int .i64 k) es i = some (some (j, .bool true))) ∧ (k ∉ ks → Instr.findNow (.int .i64) (.int .i64 k) es i = some none)
  | [], ks, i, h, _ => by
    cases ks with
    | nil => exact ⟨fun h => by simp at h, fun _ => rfl⟩
    | cons a l => simp at h
  | e :: es, ks, i, h, hv => by
    cases ks with
    | nil => simp at h
    | cons a l =>
      simp only [List.map_cons, List.cons.injEq] at h
      obtain ⟨h1, h2⟩ := h
      have ih := find_keys k es l (i + 1) h2 fun x hx => hv x (by simp [hx])
      have h3 := hv e (by simp)
      by_cases hka : k = a
      · subst hka
        refine ⟨fun _ => ⟨i, ?_⟩, fun hn => absurd (by simp) hn⟩
        simp [Instr.findNow, Instr.sameNow, h1, h3]
      · have hs : Instr.sameNow (.int .i64) (.int .i64 k) e.key = some false := by
          rw [h1]; simp [Instr.sameNow, hka]
        refine ⟨fun hm => ?_, fun hn => ?_⟩
        · have : k ∈ l := by simpa [hka] using hm
          obtain ⟨j, hj⟩ := ih.1 this
          exact ⟨j, by simp only [Instr.findNow, hs]; exact hj⟩
        · have : k ∉ l := fun x => hn (by simp [x])
          simp only [Instr.findNow, hs]; exact ih.2 this
section
variable {P : Program} {h : PH}
theorem look_keys {t kt e : TypeId} {b : Nat} {ks : List Int} {k : Int} {K : Value → Prop} (hu : P.underlying t = some (.map kt e)) (hk : P.underlying kt = some (.int .i64)) (hz : ∀ w, (zeroValue e).run P w = .ok (.bool false) w) (H : KeysAt b ks h) (hK : K (.bool (decide (k ∈ ks)))) :
    wLk P t false (.map (some b)) (.int .i64 k) h K := by
  obtain ⟨es, c, hb, h1, h2⟩ := H
  refine ⟨_, fun w hw => ?_, hK⟩
  have hg : (getObj b).run P w = .ok (.map es c) w := by
    have := hw b _ hb
    simp [getObj, Sem.run, this]
  have hck : ∀ ee nn, (Instr.checkKey ee (nn + 1) kt (.int .i64 k)).run P w = .ok () w := fun ee nn => by
    rw [Instr.checkKey, Sem.run_bind, run_underlying hk, Result.andThen_ok]; rfl
  have hf := find_keys k es.toList ks 0 h1 h2
  simp only [Instr.lookup, Sem.run_bind, run_underlying hu, Result.andThen_ok, hg, Sem.run_pure]
  rw [show (10000 : Nat) = 9999 + 1 from rfl, hck, Result.andThen_ok]
  by_cases hm : k ∈ ks
  · obtain ⟨j, hj⟩ := hf.1 hm
    have hfk : (Instr.findKey kt (.int .i64 k) es.toList).run P w = .ok (some (j, .bool true)) w := by
      rw [Instr.findKey, Sem.run_bind, run_underlying hk, Result.andThen_ok, hj]; rfl
    rw [hfk, Result.andThen_ok]
    simp [hm, Sem.run_bind]
  · have hj := hf.2 hm
    have hfk : (Instr.findKey kt (.int .i64 k) es.toList).run P w = .ok none w := by
      rw [Instr.findKey, Sem.run_bind, run_underlying hk, Result.andThen_ok, hj]; rfl
    rw [hfk, Result.andThen_ok]
    simp [hm, Sem.run_bind, hz]
theorem put_keys {t kt e : TypeId} {b : Nat} {ks : List Int} {k : Int} {C : PH → Prop} {K : PH → Prop} (hu : P.underlying t = some (.map kt e)) (hk : P.underlying kt = some (.int .i64)) (hn : k ∉ ks) (H : (KeysAt b ks • C) h) (hK : ∀ g, (KeysAt b (ks ++ [k]) • C) g → K g) :
    wMU P t (.map (some b)) (.int .i64 k) (.bool true) h K := by
  obtain ⟨g1, g2, d, s1, s2, ⟨es, c, hb, h1, h2⟩, cc⟩ := H
  intro w hw
  have hbh := s1 _ _ hb
  have hbw := hw b _ hbh
  have hg : (getObj b).run P w = .ok (.map es c) w := by simp [getObj, Sem.run, hbw]
  have hck : ∀ ee nn, (Instr.checkKey ee (nn + 1) kt (.int .i64 k)).run P w = .ok () w := fun ee nn => by
    rw [Instr.checkKey, Sem.run_bind, run_underlying hk, Result.andThen_ok]; rfl
  have hf := (find_keys k es.toList ks 0 h1 h2).2 hn
  have hfk : (Instr.findKey kt (.int .i64 k) es.toList).run P w = .ok none w := by
    rw [Instr.findKey, Sem.run_bind, run_underlying hk, Result.andThen_ok, hf]; rfl
  obtain ⟨q1, q2⟩ := Px.set_world hw hbh (.map (es.push { key := .int .i64 k, val := .bool true, born := c }) (c + 1)) w.drawn
  refine ⟨_, _, ?_, q1, q2, hK _ ?_⟩
  · unfold Instr.mapUpdate
    simp only [Sem.run_bind, run_underlying hu, Result.andThen_ok, hg]
    rw [show (10000 : Nat) = 9999 + 1 from rfl, hck, Result.andThen_ok, hfk, Result.andThen_ok]
    exact Px.run_setObj hbw _
  · have hb2 : g2 b = none := d b (by rw [hb]; simp)
    refine ⟨one b (.map (es.push { key := .int .i64 k, val := .bool true, born := c }) (c + 1)), g2, fun x hx => ?_, one_sub (ins_eq _ _ _), fun x o hx => ?_, ⟨_, _, ins_eq _ _ _, by simp [h1], fun e he => ?_⟩, cc⟩
    · by_cases e : x = b
      · subst e; exact hb2
      · exact absurd (by unfold one; rw [ins_ne _ _ e]) hx
    · rw [ins_ne _ _ (fun e => by rw [e, hb2] at hx; cases hx)]; exact s2 _ _ hx
    · simp only [Array.toList_push, List.mem_append, List.mem_singleton] at he
      rcases he with he | rfl
      · exact h2 e he
      · rfl

/-- A slice of one-cell elements that is owned whole: n of them. -/
def SlO (e : TypeId) (s : Value) (n : Nat) (h : PH) : Prop := (s = .slice none 0 0 ∧ n = 0) ∨ ∃ g c cap, s = .slice (some ⟨g, 0, none⟩) n cap ∧ h g = some (.cells c e (0, 0)) ∧ c.size = cap ∧ n ≤ cap
theorem SlO.mono (e : TypeId) (s : Value) (n : Nat) : Mono (SlO e s n) := fun _ _ hs H => by
  rcases H with H | ⟨g, c, cap, a, b, r⟩
  · exact .inl H
  · exact .inr ⟨g, c, cap, a, hs _ _ b, r⟩
theorem SlO.one {e : TypeId} {s : Value} {n : Nat} {g : PH} (H : SlO e s n g) : s.oneCell' = true := by
  rcases H with ⟨rfl, _⟩ | ⟨_, _, _, rfl, _⟩ <;> rfl
theorem app_one {e : TypeId} {s v : Value} {n bytes : Nat} {C : PH → Prop} {G : PH} {P1 P2 P3 : Prop} {K : Value → PH → Prop} (H : (SlO e s n • C) G) (hf : Instr.fill (fun i => some (i * 1, 1)) (rep #[.pointer none] (1 * 1)) [(0, v)] = some #[v]) (ho : v.oneCell' = true) (hn : (n + 1) * bytes ≤ roomBytes) (p1 : P1) (p2 : P2) (p3 : P3)
    (hk : ∀ s' g, (SlO e s' (n + 1) • C) g → K s' g) : vBuildS e 1 1 #[.pointer none] [(0, v)] G fun t h1 => P1 ∧ P2 ∧ P3 ∧ vAppend false e 1 bytes s t h1 K := by
  refine ⟨_, hf, fun d hd => ⟨p1, p2, p3, .inr (.inr ⟨rfl, d, 0, 1, 1, #[v], e, (0, 0), rfl, ins_eq _ _ _, by simp, fun x hx => ?_, ?_⟩)⟩⟩
  · simp at hx; rw [hx]; exact ho
  obtain ⟨g1, g2, dj, s1, s2, hs, cc⟩ := H
  have hd2 : g2 d = none := Sub.fresh s2 hd
  have fin : ∀ (b : Nat) (G2 : PH) (cs : Array Value), g2 b = none → (∀ x, x ≠ b → g2 x ≠ none → G2 x = g2 x) → ∀ cap, cs.size = cap → n + 1 ≤ cap → (SlO e (.slice (some ⟨b, 0, none⟩) (n + 1) cap) (n + 1) • C) (ins G2 b (.cells cs e (0, 0))) := fun b G2 cs hb hG cap h1 h2 => by
    refine ⟨Pw.one b (.cells cs e (0, 0)), g2, fun x hx => ?_, one_sub (ins_eq _ _ _), fun x o hx => ?_, .inr ⟨b, cs, cap, rfl, ins_eq _ _ _, h1, h2⟩, cc⟩
    · by_cases e : x = b
      · subst e; exact hb
      · exact absurd (by unfold Pw.one; rw [ins_ne _ _ e]) hx
    · have hxb : x ≠ b := fun e => by rw [e, hb] at hx; cases hx
      rw [ins_ne _ _ hxb, hG x hxb (by rw [hx]; simp)]; exact hx
  rcases hs with ⟨rfl, rfl⟩ | ⟨gg, c, cap, rfl, hg, hc, hl⟩
  · refine .inl ⟨rfl, (fun e => by omega), fun _ => ⟨by omega, fun b cap' rest hb h1 h2 => ?_⟩⟩
    refine hk _ _ (fin b _ _ (Sub.fresh (s2.trans (sub_ins _ hd)) hb) (fun x hx hn => ?_) cap' (by simp at h2 ⊢; omega) (by omega))
    cases hgx : g2 x with
    | none => exact absurd hgx hn
    | some o => exact (s2.trans (sub_ins _ hd)) x o hgx
  · have hgG := s1 _ _ hg
    have hg2 : g2 gg = none := dj gg (by rw [hg]; simp)
    have hdg : gg ≠ d := ne_fresh hd hgG
    refine .inr (.inl ⟨gg, n, cap, c, rfl, by rw [ins_ne _ _ hdg]; exact hgG, by omega, hl, hn, (fun b off l c e => ?_), fun b cap' rest hb h1 h2 => ?_⟩)
    · cases e; exact fun e => hdg e.symm
    · refine hk _ _ (fin b _ _ ?_ (fun x hx hn => ?_) cap' (by simp at h2 ⊢; omega) h1)
      · rcases hb with rfl | hb
        · exact hg2
        · exact Sub.fresh (s2.trans (sub_ins _ hd)) hb
      · cases hgx : g2 x with
        | none => exact absurd hgx hn
        | some o =>
          have hxg : x ≠ gg := fun e => by rw [e, hg2] at hgx; cases hgx
          unfold dropB
          have : Nat.beq x gg = false := by
            cases hq : Nat.beq x gg
            · rfl
            · exact absurd (Nat.eq_of_beq_eq_true hq) hxg
          rw [this]
          exact (s2.trans (sub_ins _ hd)) x o hgx
end
end Go.Pw
