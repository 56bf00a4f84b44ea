/- A book that numbers, a log, a house: made by the executor, beside any memory. -/
import Derived.Test.YtgpcjdmiecnphaaGreatPyA
import Derived.Test.YtgpcjdmiecnphaaGreatPxY
import Derived.Test.YtgpcjdmiecnphaaGreatPwL
set_option linter.unusedSimpArgs false
set_option linter.unusedVariables false
set_option maxRecDepth 1000000
namespace Go.Px
open Go Go.Pw Go.Proofs
theorem RelH.sub {P : Program} {ns : List Nm} {H : CH} {h g : PH} (hs : Sub h g) (hH : RelH P ns H h) : RelH P ns H g :=
  ⟨hH.len, fun b o hb => by obtain ⟨m, h1, h2⟩ := hH.obj b o hb; exact ⟨m, h1, h2.ext (Ext.refl ns) fun o ho => hs _ _ ho⟩, hH.inj⟩
theorem rel0 : RelH Tryz.prog [] h0 (fun _ => none) := by
  have none_at : ∀ {b : Nat} {o : CO}, h0.at b = some o → False := fun {b o} hb => by
    unfold CH.at hGet at hb
    cases hl : Nat.blt b 8192 <;> rw [hl] at hb <;> simp only at hb
    · cases hb
    · rw [Px.h0, Tn.get_mk] at hb; cases hb
  exact ⟨rfl, fun b o hb => (none_at hb).elim, fun b b' o o' m m' hb => (none_at hb).elim⟩
theorem nothing_sep {C : PH → Prop} {h : PH} (hC : C h) : ((fun g : PH => g = fun _ => none) • C) h :=
  ⟨fun _ => none, h, fun b hb => absurd rfl hb, (fun b o hb => nomatch hb), Sub.refl h, rfl, hC⟩
/-- A call carried out over the empty memory, beside what is there. -/
theorem run_new {C : PH → Prop} {fuel n : Nat} {f : FuncId} {vs : List CV} {xs : List Value} {k : KF} (hq : xF Tryz.prog lib ot gt fuel n f vs h0 k = true) (hv : toVs [] vs = some xs) (hp : ∀ v H, k (.pan v) H = false) {h : PH} (hC : C h) {R : AEnd → PH → Prop}
    (hr : ∀ ns v x H' g, toV ns v = some x → k (.ret v) H' = true → (RelH Tryz.prog ns H' • C) g → R (.ret x) g) : ACalls Tryz.prog f xs.toArray h R := by
  refine ACalls.sep (Q := fun e h' => ∃ ns v x H', e = .ret x ∧ toV ns v = some x ∧ k (.ret v) H' = true ∧ RelH Tryz.prog ns H' h') (nothing_sep hC) (fun g hg => ?_) fun e g hg => ?_
  · subst hg
    exact xF_ok follows_ok lib_ok fB_ok n f vs h0 k [] (fun _ => none) xs _ rel0 hv hq (fun ns' v x H' h' _ hx hH hk => ⟨ns', v, x, H', rfl, hx, hk, hH⟩) (fun ns' v x H' h' _ hx hH hk => by rw [hp] at hk; cases hk)
  · obtain ⟨h1, h2, d, s1, s2, ⟨ns, v, x, H', rfl, hx, hk, hH⟩, c⟩ := hg
    exact hr ns v x H' g hx hk ⟨h1, h2, d, s1, s2, hH, c⟩
/-- A call carried out over a part of memory that is told by its numbers. -/
theorem run_on {C : PH → Prop} {fuel n : Nat} {f : FuncId} {ns : List Nm} {vs : List CV} {xs : List Value} {H : CH} {k : KF} (hq : xF Tryz.prog lib ot gt fuel n f vs H k = true) (hv : toVs ns vs = some xs) (hp : ∀ v H, k (.pan v) H = false) {h : PH} (hC : (RelH Tryz.prog ns H • C) h) {R : AEnd → PH → Prop}
    (hr : ∀ ns' v x H' g, Ext ns ns' → toV ns' v = some x → k (.ret v) H' = true → (RelH Tryz.prog ns' H' • C) g → R (.ret x) g) : ACalls Tryz.prog f xs.toArray h R := by
  refine ACalls.sep (Q := fun e h' => ∃ ns' v x H', e = .ret x ∧ Ext ns ns' ∧ toV ns' v = some x ∧ k (.ret v) H' = true ∧ RelH Tryz.prog ns' H' h') hC (fun g hg => ?_) fun e g hg => ?_
  · exact xF_ok follows_ok lib_ok fB_ok n f vs H k ns g xs _ hg hv hq (fun ns' v x H' h' he hx hH hk => ⟨ns', v, x, H', rfl, he, hx, hk, hH⟩) (fun ns' v x H' h' _ hx hH hk => by rw [hp] at hk; cases hk)
  · obtain ⟨h1, h2, d, s1, s2, ⟨ns', v, x, H', rfl, he, hx, hk, hH⟩, c⟩ := hg
    exact hr ns' v x H' g he hx hk ⟨h1, h2, d, s1, s2, hH, c⟩

/-! ### the book -/
noncomputable def Dg : Nat → CV → CH → Bool
  | 0 => fun _ _ => true
  | n + 1 => fun v H => xF Tryz.prog lib ot gt 2000 20 37 [v, .str []] H fun r H2 => match r with
    | .ret (.str (_ :: _)) => Dg n v H2
    | _ => false
noncomputable def kB : KF := fun r H => match r with
  | .ret (.ptr b o) => Dg 40 (.ptr b o) H
  | _ => false
theorem runB : xF Tryz.prog lib ot gt 2000 20 6 [] h0 kB = true := by kernel_rfl
def BookP (n : Nat) (b : Value) (h : PH) : Prop := ∃ ns v H, toV ns v = some b ∧ RelH Tryz.prog ns H h ∧ Dg n v H = true
theorem BookP.mono (n : Nat) (b : Value) : Mono (BookP n b) := fun h g hs ⟨ns, v, H, h1, h2, h3⟩ => ⟨ns, v, H, h1, h2.sub hs, h3⟩
theorem toV_ptr' {ns : List Nm} {b o : Nat} {x : Value} (h : toV ns (.ptr b o) = some x) : ∃ a, x = .pointer (some a) := by
  obtain ⟨m, _, rfl⟩ := toV_ptr h
  exact ⟨_, rfl⟩
section
variable {C : PH → Prop} {h : PH} {R : AEnd → PH → Prop}
theorem newbook_ok (hC : C h) (hR : ∀ a g, (BookP 40 (.pointer (some a)) • C) g → R (.ret (.pointer (some a))) g) : ACalls Tryz.prog 6 #[] h R :=
  run_new (vs := []) (xs := []) runB rfl (fun _ _ => rfl) hC fun ns v x H' g hx hk hg => by
    cases v <;> simp only [kB, Bool.false_eq_true] at hk
    obtain ⟨a, rfl⟩ := toV_ptr' hx
    exact hR a g (sep_mono hg (fun g' hH => ⟨ns, _, H', hx, hH, hk⟩) fun _ c => c)
theorem bytes_ne {c : Nat} {l : List Nat} : bytesN (c :: l) ≠ ⟨#[]⟩ := fun e => by
  have := congrArg (fun b : ByteArray => b.data.size) e
  simp [bytesN] at this
theorem digest_ok {n : Nat} {b : Value} (hC : (BookP (n + 1) b • C) h) (hR : ∀ s g, s ≠ (⟨#[]⟩ : ByteArray) → (BookP n b • C) g → R (.ret (.string s)) g) : ACalls Tryz.prog 37 #[b, .string ⟨#[]⟩] h R := by
  obtain ⟨h1, h2, d, s1, s2, ⟨ns, v, H, e1, e2, e3⟩, c⟩ := hC
  refine run_on (C := C) (vs := [v, .str []]) (xs := [b, .string ⟨#[]⟩]) (ns := ns) e3 (toVs_mk e1 (toVs_mk (by rfl) rfl)) (fun _ _ => rfl) ⟨h1, h2, d, s1, s2, e2, c⟩ fun ns' u x H' g he hx hk hg => ?_
  split at hk
  · rename_i cc l hu
    cases hu
    simp only [toV, Option.some.injEq] at hx
    subst hx
    exact hR _ g bytes_ne (sep_mono hg (fun g' hH => ⟨ns', v, H', toV_ext he _ e1, hH, hk⟩) fun _ c => c)
  · cases hk
noncomputable def kE : KF := fun r _ => match r with
  | .ret (.str []) => true
  | _ => false
theorem runE : xF Tryz.prog lib ot gt 2000 20 37 [.nilp, .str []] h0 kE = true := by kernel_rfl
theorem digest_nil (hC : C h) (hm : Mono C) (hR : ∀ g, C g → R (.ret (.string ⟨#[]⟩)) g) : ACalls Tryz.prog 37 #[.pointer none, .string ⟨#[]⟩] h R :=
  run_new (vs := [.nilp, .str []]) (xs := [.pointer none, .string ⟨#[]⟩]) runE rfl (fun _ _ => rfl) hC fun ns v x H' g hx hk hg => by
    unfold kE at hk
    split at hk
    · rename_i hu
      cases hu
      simp only [toV, Option.some.injEq] at hx
      subst hx
      exact hR g (sep_r hm hg)
    · cases hk

/-! ### the log -/
noncomputable def kZ : KF := fun r _ => match r with
  | .ret (.int .i64 (.ofNat 0)) => true
  | _ => false
noncomputable def kL : KF := fun r H => match r with
  | .ret (.tup [.ptr b o, .int .i64 (.ofNat 0)]) => xF Tryz.prog lib ot gt 2000 20 44 [.ptr b o] H kZ
  | _ => false
theorem runL4 : xF Tryz.prog lib ot gt 2000 20 38 [.int .i64 (.ofNat 4)] h0 kL = true := by kernel_rfl
theorem runL7 : xF Tryz.prog lib ot gt 2000 20 38 [.int .i64 (.ofNat 7)] h0 kL = true := by kernel_rfl
theorem runL10 : xF Tryz.prog lib ot gt 2000 20 38 [.int .i64 (.ofNat 10)] h0 kL = true := by kernel_rfl
theorem runL13 : xF Tryz.prog lib ot gt 2000 20 38 [.int .i64 (.ofNat 13)] h0 kL = true := by kernel_rfl
def LogP (l : Value) (h : PH) : Prop := ∃ ns v H, toV ns v = some l ∧ RelH Tryz.prog ns H h ∧ xF Tryz.prog lib ot gt 2000 20 44 [v] H kZ = true
theorem LogP.mono (l : Value) : Mono (LogP l) := fun h g hs ⟨ns, v, H, h1, h2, h3⟩ => ⟨ns, v, H, h1, h2.sub hs, h3⟩
theorem toV_tup2 {ns : List Nm} {u v : CV} {x : Value} (h : toV ns (.tup [u, v]) = some x) : ∃ a b, toV ns u = some a ∧ toV ns v = some b ∧ x = .tuple #[a, b] := by
  simp only [toV] at h
  split at h
  · rename_i y hy
    obtain ⟨a, z, h1, h2, rfl⟩ := toVs_cons hy
    obtain ⟨b, w, h3, h4, rfl⟩ := toVs_cons h2
    simp only [toVs, Option.some.injEq] at h4
    subst h4
    cases h
    exact ⟨a, b, h1, h3, rfl⟩
  · cases h
theorem newlog_ok {n : Nat} (hn : n = 4 ∨ n = 7 ∨ n = 10 ∨ n = 13) (hC : C h) (hR : ∀ a g, (LogP (.pointer (some a)) • C) g → R (.ret (.tuple #[.pointer (some a), .int .i64 0])) g) : ACalls Tryz.prog 38 #[.int .i64 n] h R := by
  have hq : xF Tryz.prog lib ot gt 2000 20 38 [.int .i64 (.ofNat n)] h0 kL = true := by
    rcases hn with rfl | rfl | rfl | rfl
    · exact runL4
    · exact runL7
    · exact runL10
    · exact runL13
  refine run_new (vs := [.int .i64 (.ofNat n)]) (xs := [.int .i64 n]) hq rfl (fun _ _ => rfl) hC fun ns v x H' g hx hk hg => ?_
  unfold kL at hk
  split at hk
  · rename_i b o hu
    cases hu
    obtain ⟨y, z, h1, h2, rfl⟩ := toV_tup2 hx
    obtain ⟨a, rfl⟩ := toV_ptr' h1
    simp only [toV, Option.some.injEq] at h2
    subst h2
    exact hR a g (sep_mono hg (fun g' hH => ⟨ns, _, H', h1, hH, hk⟩) fun _ c => c)
  · cases hk
theorem low_ok {l : Value} (hC : (LogP l • C) h) (hm : Mono C) (hR : ∀ g, C g → R (.ret (.int .i64 0)) g) : ACalls Tryz.prog 44 #[l] h R := by
  obtain ⟨h1, h2, d, s1, s2, ⟨ns, v, H, e1, e2, e3⟩, c⟩ := hC
  refine run_on (C := C) (vs := [v]) (xs := [l]) (ns := ns) e3 (toVs_mk e1 rfl) (fun _ _ => rfl) ⟨h1, h2, d, s1, s2, e2, c⟩ fun ns' u x H' g he hx hk hg => ?_
  unfold kZ at hk
  split at hk
  · rename_i hu
    cases hu
    simp only [toV, Option.some.injEq] at hx
    subst hx
    exact hR g (sep_r hm hg)
  · cases hk

/-! ### the house -/
noncomputable def kH : KF := fun r _ => match r with
  | .ret (.tup [.ptr _ _, _]) => true
  | _ => false
noncomputable def runHs (c : Nat) : Bool := (List.range 4).all fun g => xF Tryz.prog lib ot gt 2000 20 39 [.int .i64 (.ofNat c), .int .i64 (.ofNat (g + 1))] h0 kH
theorem runH : ((List.range 16).all fun c => runHs (c + 1)) = true := by kernel_rfl
theorem newhouse_ok {c g : Int} (c1 : 1 ≤ c) (c2 : c ≤ 16) (g1 : 1 ≤ g) (g2 : g ≤ 4) (hC : C h) (hm : Mono C) (hR : ∀ a b k, C k → R (.ret (.tuple #[.pointer (some a), b])) k) : ACalls Tryz.prog 39 #[.int .i64 c, .int .i64 g] h R := by
  obtain ⟨cn, rfl⟩ : ∃ cn : Nat, c = ((cn + 1 : Nat) : Int) := ⟨(c - 1).toNat, by omega⟩
  obtain ⟨gn, rfl⟩ : ∃ gn : Nat, g = ((gn + 1 : Nat) : Int) := ⟨(g - 1).toNat, by omega⟩
  have h1 := List.all_eq_true.1 runH cn (List.mem_range.2 (by omega))
  have hq := List.all_eq_true.1 h1 gn (List.mem_range.2 (by omega))
  refine run_new (vs := [.int .i64 (.ofNat (cn + 1)), .int .i64 (.ofNat (gn + 1))]) (xs := [.int .i64 ((cn + 1 : Nat) : Int), .int .i64 ((gn + 1 : Nat) : Int)]) hq rfl (fun _ _ => rfl) hC fun ns v x H' k hx hk hg => ?_
  unfold kH at hk
  split at hk
  · rename_i hu
    cases hu
    obtain ⟨y, z, h1, h2, rfl⟩ := toV_tup2 hx
    obtain ⟨a, rfl⟩ := toV_ptr' h1
    exact hR a z k (sep_r hm hg)
  · cases hk
end
end Go.Px
