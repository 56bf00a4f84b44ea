/- All functions are checked; what the executor says of a call is so. -/
import Derived.Test.YtgpcjdmiecnphaaGreatPxX
import Derived.Test.YtgpcjdmiecnphaaGreatPxV
set_option linter.unusedVariables false
namespace Go.Px
open Go Go.Pw Go.Proofs
theorem fB_ok (f : FuncId) : fB Tryz.prog ot gt f = true := by
  rcases Nat.lt_or_ge f 10 with h0 | h0
  · exact fBs_ok fB0 (Nat.zero_le f) h0
  rcases Nat.lt_or_ge f 20 with h1 | h1
  · exact fBs_ok fB1 h0 h1
  rcases Nat.lt_or_ge f 30 with h2 | h2
  · exact fBs_ok fB2 h1 h2
  rcases Nat.lt_or_ge f 40 with h3 | h3
  · exact fBs_ok fB3 h2 h3
  rcases Nat.lt_or_ge f 50 with h4 | h4
  · exact fBs_ok fB4 h3 h4
  rcases Nat.lt_or_ge f 60 with h5 | h5
  · exact fBs_ok fB5 h4 h5
  rcases Nat.lt_or_ge f 70 with h6 | h6
  · exact fBs_ok fB6 h5 h6
  rcases Nat.lt_or_ge f 80 with h7 | h7
  · exact fBs_ok fB7 h6 h7
  rcases Nat.lt_or_ge f 90 with h8 | h8
  · exact fBs_ok fB8 h7 h8
  rcases Nat.lt_or_ge f 100 with h9 | h9
  · exact fBs_ok fB9 h8 h9
  rcases Nat.lt_or_ge f 110 with h10 | h10
  · exact fBs_ok fB10 h9 h10
  rcases Nat.lt_or_ge f 120 with h11 | h11
  · exact fBs_ok fB11 h10 h11
  rcases Nat.lt_or_ge f 130 with h12 | h12
  · exact fBs_ok fB12 h11 h12
  rcases Nat.lt_or_ge f 140 with h13 | h13
  · exact fBs_ok fB13 h12 h13
  rcases Nat.lt_or_ge f 150 with h14 | h14
  · exact fBs_ok fB14 h13 h14
  rcases Nat.lt_or_ge f 160 with h15 | h15
  · exact fBs_ok fB15 h14 h15
  rcases Nat.lt_or_ge f 170 with h16 | h16
  · exact fBs_ok fB16 h15 h16
  rcases Nat.lt_or_ge f 180 with h17 | h17
  · exact fBs_ok fB17 h16 h17
  rcases Nat.lt_or_ge f 190 with h18 | h18
  · exact fBs_ok fB18 h17 h18
  rcases Nat.lt_or_ge f 200 with h19 | h19
  · exact fBs_ok fB19 h18 h19
  rcases Nat.lt_or_ge f 210 with h20 | h20
  · exact fBs_ok fB20 h19 h20
  rcases Nat.lt_or_ge f 220 with h21 | h21
  · exact fBs_ok fB21 h20 h21
  rcases Nat.lt_or_ge f 230 with h22 | h22
  · exact fBs_ok fB22 h21 h22
  rcases Nat.lt_or_ge f 240 with h23 | h23
  · exact fBs_ok fB23 h22 h23
  rcases Nat.lt_or_ge f 250 with h24 | h24
  · exact fBs_ok fB24 h23 h24
  rcases Nat.lt_or_ge f 260 with h25 | h25
  · exact fBs_ok fB25 h24 h25
  rcases Nat.lt_or_ge f 270 with h26 | h26
  · exact fBs_ok fB26 h25 h26
  rcases Nat.lt_or_ge f 280 with h27 | h27
  · exact fBs_ok fB27 h26 h27
  rcases Nat.lt_or_ge f 290 with h28 | h28
  · exact fBs_ok fB28 h27 h28
  rcases Nat.lt_or_ge f 300 with h29 | h29
  · exact fBs_ok fB29 h28 h29
  rcases Nat.lt_or_ge f 310 with h30 | h30
  · exact fBs_ok fB30 h29 h30
  rcases Nat.lt_or_ge f 320 with h31 | h31
  · exact fBs_ok fB31 h30 h31
  rcases Nat.lt_or_ge f 330 with h32 | h32
  · exact fBs_ok fB32 h31 h32
  rcases Nat.lt_or_ge f 340 with h33 | h33
  · exact fBs_ok fB33 h32 h33
  rcases Nat.lt_or_ge f 350 with h34 | h34
  · exact fBs_ok fB34 h33 h34
  rcases Nat.lt_or_ge f 360 with h35 | h35
  · exact fBs_ok fB35 h34 h35
  rcases Nat.lt_or_ge f 367 with h36 | h36
  · exact fBs_ok fB36 h35 h36
  unfold fB
  rw [Array.getElem?_eq_none (by rw [prog_size]; exact h36)]
theorem follows_ok : Tryz.prog.follows .mixedOrders = true := by kernel_rfl
/-- What follows from a run over the empty memory, beside any memory. -/
theorem ran {fuel n : Nat} {f : FuncId} {vs : List CV} {xs : List Value} {k : KF} (hq : xF Tryz.prog lib ot gt fuel n f vs h0 k = true) (hv : toVs [] vs = some xs) (hp : ∀ v H, k (.pan v) H = false) (h : PH) {R : AEnd → PH → Prop}
    (hr : ∀ ns v x H' h', Sub h h' → toV ns v = some x → k (.ret v) H' = true → R (.ret x) h') : ACalls Tryz.prog f xs.toArray h R := by
  have none_at : ∀ {b : Nat} {o : CO}, h0.at b = some o → False := fun {b o} hb => by
    unfold CH.at hGet at hb
    cases hl : Nat.blt b 8192 <;> rw [hl] at hb <;> simp only at hb
    · cases hb
    · rw [Px.h0, Tn.get_mk] at hb; cases hb
  have h00 : RelH Tryz.prog [] h0 (fun _ => none) := ⟨rfl, fun b o hb => (none_at hb).elim, fun b b' o o' m m' hb => (none_at hb).elim⟩
  have H0 : ACalls Tryz.prog f xs.toArray (fun _ => none) (fun e h' => ∃ ns v x H', e = .ret x ∧ toV ns v = some x ∧ k (.ret v) H' = true) :=
    xF_ok follows_ok lib_ok fB_ok n f vs h0 k [] (fun _ => none) xs _ h00 hv hq (fun ns' v x H' h' _ hx hH hk => ⟨ns', v, x, H', rfl, hx, hk⟩) (fun ns' v x H' h' _ hx hH hk => by rw [hp] at hk; cases hk)
  have H1 := H0.frame h (fun b hb => absurd rfl hb)
  have hj : join (fun _ => none) h = h := by funext b; rfl
  rw [hj] at H1
  refine H1.mono fun e h' he => ?_
  obtain ⟨h1, rfl, hd, ns, v, x, H', rfl, hx, hk⟩ := he
  refine hr ns v x H' _ (fun b o hb => ?_) hx hk
  unfold join
  rw [hd b (by rw [hb]; simp)]
  exact hb
end Go.Px
