/- The records of a ledger. -/
import Derived.Test.YtbidgpchoamdfaaLgH
import Derived.Test.YtbidgpchoamdfaaLgE
set_option linter.unusedSimpArgs false
set_option linter.unusedVariables false
namespace Go.Pw
open Go Go.Proofs

/-- A slice of one's own: n elements, the cells l; everything of h0 stays. -/
structure OB (e : TypeId) (esz : Nat) (h0 : PH) (n : Nat) (l : List Value) (h : PH) (s : Value) : Prop where
  sub : Sub h0 h
  len : l.length = n * esz
  buf : (s = .slice none 0 0 ∧ n = 0 ∧ l = []) ∨ ∃ g c cap, s = .slice (some ⟨g, 0, none⟩) n cap ∧ h g = some (.cells c e (0, 0)) ∧ h0 g = none ∧ c.size = cap * esz ∧ n ≤ cap ∧ c.toList.take (n * esz) = l

section
variable {h h0 h1 : PH} {e : TypeId} {esz n : Nat} {l : List Value} {s : Value}
theorem OB.up (hw : OB e esz h0 n l h s) (hs : Sub h h1) : OB e esz h0 n l h1 s :=
  ⟨hw.sub.trans hs, hw.len, by
    rcases hw.buf with a | ⟨g, c, cap, a1, a2, a3⟩
    · exact .inl a
    · exact .inr ⟨g, c, cap, a1, hs _ _ a2, a3⟩⟩
theorem ob_app {K : Value → PH → Prop} {bytes m : Nat} {str : Bool} {x : Value} {news : List Value} (hw : OB e esz h0 n l h1 s) (hlen : (n + m) * bytes ≤ roomBytes) (hm : 0 < m) (hnl : news.length = m * esz)
    (hsrc : ∀ K' : Nat → List Value → Prop, K' m news → srcCells str esz x h1 K') (hap : ∀ b off l c, x = .slice (some ⟨b, off, none⟩) l c → ∀ g cap, s = .slice (some ⟨g, 0, none⟩) n cap → b ≠ g)
    (hk : ∀ h3 s3, OB e esz h0 (n + m) (l ++ news) h3 s3 → K s3 h3) :
    vAppend str e esz bytes s x h1 K := by
  unfold vAppend
  refine hsrc _ ?_
  rcases hw.buf with ⟨rfl, rfl, rfl⟩ | ⟨g, c, cap, rfl, hg, hg0, hcs, hle, htk⟩
  · refine .inl ⟨rfl, fun hn => absurd hn (by omega), fun hn => ⟨by simpa using hlen, fun b cap rest hb hc hl => ?_⟩⟩
    have : OB e esz h0 (0 + m) ([] ++ news) (ins h1 b (.cells (news ++ rest).toArray e)) (.slice (some ⟨b, 0, none⟩) (0 + m) cap) :=
      ⟨Sub.put hw.sub (hw.sub.fresh hb), by simpa using hnl, .inr ⟨b, _, cap, rfl, ins_eq _ _ _, hw.sub.fresh hb, by simpa using hl, by omega, by
        simp only [Nat.zero_add, List.nil_append]
        rw [← hnl, List.take_left]⟩⟩
    have := hk _ _ this
    rw [Nat.zero_add] at this
    exact this
  · refine .inr ⟨g, n, cap, c, rfl, hg, hcs, hle, hlen, fun b off l c' hx => hap b off l c' hx g cap rfl, fun b cap' rest hb hc hl => ?_⟩
    have hb0 : h0 b = none := by
      rcases hb with rfl | hb
      · exact hg0
      · exact hw.sub.fresh hb
    have hsd : Sub h0 (dropB h1 g) := fun y o hy => by
      unfold dropB
      cases hq : Nat.beq y g
      · exact hw.sub y o hy
      · rw [Nat.eq_of_beq_eq_true hq, hg0] at hy; cases hy
    refine hk _ _ ⟨Sub.put hsd hb0, by rw [List.length_append, hw.len, hnl, Nat.add_mul], .inr ⟨b, _, cap', rfl, ins_eq _ _ _, hb0, ?_, hc, ?_⟩⟩
    · simp only [List.size_toArray, List.length_append] at hl ⊢; omega
    · rw [htk]
      simp only
      rw [show (n + m) * esz = (l ++ news).length by rw [List.length_append, hw.len, hnl, Nat.add_mul], List.take_left]
theorem ob_get (hw : OB e esz h0 n l h s) (hn : 0 < n) : ∃ g c cap, s = .slice (some ⟨g, 0, none⟩) n cap ∧ h g = some (.cells c e (0, 0)) ∧ n * esz ≤ c.size ∧ ∀ j, j < n * esz → c[j]? = l[j]? := by
  rcases hw.buf with ⟨_, h0, _⟩ | ⟨g, c, cap, rfl, hg, hg0, hcs, hle, htk⟩
  · omega
  · refine ⟨g, c, cap, rfl, hg, by rw [hcs]; exact Nat.mul_le_mul_right _ hle, fun j hj => ?_⟩
    rw [← htk, List.getElem?_take, if_pos hj, Array.getElem?_toList]
theorem ob_len (hw : OB e esz h0 n l h s) : ∃ p cap, s = .slice p n cap := by
  rcases hw.buf with ⟨a, b, _⟩ | ⟨g, c, cap, a, _⟩
  · exact ⟨none, 0, by rw [a, b]⟩
  · exact ⟨_, _, a⟩
end

/-- The numbers of an account's record. -/
def numsOf (L : Led) (i : Nat) : List Int := [L.f i 10, L.f i 0, L.f i 1] ++ (List.range L.goods.toNat).map (fun j => L.f i (2 + j)) ++ (List.range L.goods.toNat).map (fun j => L.f i (6 + j))
def encL (l : List Int) : List UInt8 := l.flatMap fun n => encN n.toNat
def payB (L : Led) (i : Nat) : List UInt8 := encL (numsOf L i) ++ (encN (L.r i).size ++ (L.r i).data.toList)
def recCells (L : Led) (n : Nat) : List Value := (List.range n).flatMap fun i => [.string (keyB i), .string ⟨(payB L i).toArray⟩]
theorem recCells_len (L : Led) (n : Nat) : (recCells L n).length = n * 2 := by
  unfold recCells
  induction n with
  | zero => rfl
  | succ n ih => rw [List.range_succ, List.flatMap_append, List.length_append, ih]; simp; omega
theorem recCells_succ (L : Led) (n : Nat) : recCells L (n + 1) = recCells L n ++ [.string (keyB n), .string ⟨(payB L n).toArray⟩] := by
  unfold recCells
  rw [List.range_succ, List.flatMap_append]; simp
theorem encL_len {l : List Int} (h : ∀ x ∈ l, 0 ≤ x ∧ x ≤ 1099511627776) : (encL l).length ≤ 10 * l.length := by
  induction l with
  | nil => simp [encL]
  | cons a l ih =>
    have h1 := ih fun x hx => h x (by simp [hx])
    have h2 := h a (by simp)
    have h3 := encN_10 (n := a.toNat) (by omega)
    simp only [encL, List.flatMap_cons, List.length_append, List.length_cons] at h1 ⊢
    omega
theorem numsOf_len (L : Led) (i : Nat) : (numsOf L i).length = 3 + L.goods.toNat + L.goods.toNat := by simp [numsOf]; omega
theorem numsOf_bd {L : Led} (h : Inv L) {i : Nat} (hi : i < L.n) : ∀ x ∈ numsOf L i, 0 ≤ x ∧ x ≤ 1099511627776 := by
  have hg := h.gd
  intro x hx
  simp only [numsOf, List.mem_append, List.mem_cons, List.mem_map, List.mem_range, List.not_mem_nil, or_false] at hx
  rcases hx with ((rfl | rfl | rfl) | ⟨j, hj, rfl⟩) | ⟨j, hj, rfl⟩
  · exact h.small.num i 10 hi (by omega)
  · exact h.small.num i 0 hi (by omega)
  · exact h.small.num i 1 hi (by omega)
  · exact h.small.num i (2 + j) hi (by omega)
  · exact h.small.num i (6 + j) hi (by omega)
def iv (n : Int) : Value := .int .i64 n
theorem ent_goods (L : Led) (i : Nat) : ∀ k, k ≤ 4 → ((entCells L i).toList.drop 2).take (k * 1) = ((List.range k).map (fun j => L.f i (2 + j))).map iv
  | 0, _ => rfl
  | 1, _ => rfl
  | 2, _ => rfl
  | 3, _ => rfl
  | 4, _ => rfl
  | n + 5, h => absurd h (by omega)
theorem ent_lock (L : Led) (i : Nat) : ∀ k, k ≤ 4 → ((entCells L i).toList.drop 6).take (k * 1) = ((List.range k).map (fun j => L.f i (6 + j))).map iv
  | 0, _ => rfl
  | 1, _ => rfl
  | 2, _ => rfl
  | 3, _ => rfl
  | 4, _ => rfl
  | n + 5, h => absurd h (by omega)
theorem iv_one {l : List Int} : ∀ v ∈ l.map iv, v.oneCell' = true := by
  intro v hv
  obtain ⟨x, _, rfl⟩ := List.mem_map.1 hv
  rfl
theorem vSlA_p {K : Value → Prop} {n esz b o : Nat} {k : IntKind} {m : Int} (h0 : 0 ≤ m) (h1 : m ≤ n) (hn : n ≠ 0) : vSlA n esz none (some (.int k m)) (.pointer (some ⟨b, o, none⟩)) K ↔ K (.slice (some ⟨b, o, none⟩) m.toNat n) := by
  constructor
  · rintro ⟨b', o', e, k', m', e2, _, _, hk⟩
    cases e; cases e2
    simp only [intBetween, if_neg hn, Nat.zero_mul, Nat.add_zero, Nat.sub_zero] at hk
    exact hk
  · intro hk
    refine ⟨b, o, rfl, k, m, rfl, by omega, h1, ?_⟩
    simp only [intBetween, if_neg hn, Nat.zero_mul, Nat.add_zero, Nat.sub_zero]
    exact hk
theorem fill_three (a b c : Value) (ha : a.cells = #[a]) (hb : b.cells = #[b]) (hc : c.cells = #[c]) : Instr.fill (fun i => some (i * 1, 1)) (rep #[Value.int .i64 0] (3 * 1)) [(0, a), (1, b), (2, c)] = some #[a, b, c] := by
  have e : Array.range 3 = #[0, 1, 2] := by decide
  simp [Instr.fill, rep, ha, hb, hc, e]
theorem fill_rec (a b : ByteArray) : Instr.fill (fun i => some (i * 2, 2)) (rep #[.string ⟨#[]⟩, .string ⟨#[]⟩] (1 * 2)) [(0, Value.agg #[.string a, .string b])] = some #[.string a, .string b] := by
  have e : Array.range 2 = #[0, 1] := by decide
  simp [Instr.fill, rep, Value.cells, e]

section
variable {h : PH} {R : AEnd → PH → Prop} {x b : Nat} {L : Led}
theorem records_ok (hL : LedAt h x b L) (hi : Inv L) (hR : ∀ g s, OB 32 2 h L.n (recCells L L.n) g s → R (.ret s) g) : ACalls Try.prog 10 #[ptr x] h R := by
  refine call10 ?_
  unfold sh10 ptr
  have hgd := hi.gd
  have hg0 := hi.g0
  have hcl := hi.cl
  rw [vBin_pnil Try.underlying25]
  simp
  rw [vLoad_1 hL.hx (show (#[Value.int .i64 L.goods, .slice (some ⟨b, 0, none⟩) L.n L.n] : Array Value)[1]? = some (.slice (some ⟨b, 0, none⟩) L.n L.n) from rfl)]
  simp
  refine lf_intro (fun m s' g => ∃ (i : Nat) (sv : Value), s' = (sv, .int .i64 i) ∧ m = L.n - i ∧ i ≤ L.n ∧ OB 32 2 h i (recCells L i) g sv) L.n ⟨0, .slice none 0 0, rfl, rfl, by omega, Sub.refl h, rfl, .inl ⟨rfl, rfl, rfl⟩⟩ ?_
  rintro m s' g ⟨i, sv, rfl, rfl, hle, hob⟩
  unfold b10_5
  simp only [vBin_lss, dIf_b, decide_eq_true_eq, decide_eq_false_iff_not]
  refine ⟨fun hlt => ?_, fun hge => ?_⟩
  · have hin : i < L.n := by omega
    have hLg : LedAt g x b L := hL.sub hob.sub
    simp
    refine ⟨hin, ?_⟩
    rw [hLg.ldEnt hin]
    refine vNew_i fun c hc => ?_
    refine vStore_to (ins_eq _ _ _) (by rfl) (by rfl) (by rfl) ?_
    rw [ins_ins]
    have hEc : ins g c (.cells (entCells L i) 66 (0, 0)) c = some (.cells (entCells L i) 66 (0, 0)) := ins_eq _ _ _
    have hsE : Sub g (ins g c (.cells (entCells L i) 66 (0, 0))) := sub_ins _ hc
    revert hEc hsE
    generalize ins g c (.cells (entCells L i) 66 (0, 0)) = E
    intro hEc hsE
    have hEL : LedAt E x b L := hLg.sub hsE
    have e10 : (entCells L i)[10]? = some (iv (L.f i 10)) := rfl
    have e0 : (entCells L i)[0]? = some (iv (L.f i 0)) := rfl
    have e1 : (entCells L i)[1]? = some (iv (L.f i 1)) := rfl
    have e11 : (entCells L i)[11]? = some (.string (L.r i)) := rfl
    have eg : (#[Value.int .i64 L.goods, .slice (some ⟨b, 0, none⟩) L.n L.n] : Array Value)[0]? = some (.int .i64 L.goods) := rfl
    have hsl : ∀ {K : Value → Prop} {o : Nat}, vSlA 4 1 none (some (.int .i64 L.goods)) (.pointer (some ⟨c, o, none⟩)) K ↔ K (.slice (some ⟨c, o, none⟩) L.goods.toNat 4) := fun {K o} => vSlA_p (by omega) (by omega) (by omega)
    simp [vLoad_1 hEc e10, vLoad_1 hEc e0, vLoad_1 hEc e1, vLoad_1 hEL.hx eg, hsl]
    refine ⟨_, fill_three _ _ _ rfl rfl rfl, fun q hq => ?_⟩
    have hE3 : Sub E (ins E q (.cells #[iv (L.f i 10), iv (L.f i 0), iv (L.f i 1)] 3)) := sub_ins _ hq
    have ob0 : OB 3 1 E 3 ([L.f i 10, L.f i 0, L.f i 1].map iv) (ins E q (.cells #[iv (L.f i 10), iv (L.f i 0), iv (L.f i 1)] 3)) (.slice (some ⟨q, 0, none⟩) 3 3) :=
      ⟨hE3, rfl, .inr ⟨q, _, 3, rfl, ins_eq _ _ _, hq, rfl, by omega, rfl⟩⟩
    have hcq : c ≠ q := fun e => by rw [← e, hEc] at hq; cases hq
    have hlm : ∀ o, ((List.range L.goods.toNat).map (fun j => L.f i (o + j)) |>.map iv).length = L.goods.toNat * 1 := fun o => by simp
    refine ⟨by rw [vLoad_1 (hE3 _ _ hEL.hx) eg], ?_⟩
    refine ob_app (m := L.goods.toNat) (news := ((List.range L.goods.toNat).map (fun j => L.f i (2 + j))).map iv) ob0 (by simp only [roomBytes]; omega) (by omega) (hlm 2)
      (fun K' hk' => .inr (.inr ⟨rfl, c, 2, L.goods.toNat, 4, _, _, _, rfl, hE3 _ _ hEc, ?_, ?_, ?_⟩)) (fun b' off l cc hx gg cap hs => by cases hx; cases hs; exact hcq) fun h4 s4 ob1 => ?_
    · show 2 + L.goods.toNat * 1 ≤ 12
      omega
    · rw [ent_goods L i _ (by omega)]; exact iv_one
    · rw [ent_goods L i _ (by omega)]; exact hk'
    refine ⟨by rw [vLoad_1 (ob1.sub _ _ hEL.hx) eg], ?_⟩
    refine ob_app (m := L.goods.toNat) (news := ((List.range L.goods.toNat).map (fun j => L.f i (6 + j))).map iv) ob1 (by simp only [roomBytes]; omega) (by omega) (hlm 6)
      (fun K' hk' => .inr (.inr ⟨rfl, c, 6, L.goods.toNat, 4, _, _, _, rfl, ob1.sub _ _ hEc, ?_, ?_, ?_⟩)) (fun b' off l cc hx gg cap hs => ?_) fun h5 s5 ob2 => ?_
    · show 6 + L.goods.toNat * 1 ≤ 12
      omega
    · rw [ent_lock L i _ (by omega)]; exact iv_one
    · rw [ent_lock L i _ (by omega)]; exact hk'
    · cases hx
      intro e
      rcases ob1.buf with ⟨h1, _⟩ | ⟨g', c', cap', h1, _, h3, _⟩
      · rw [h1] at hs; cases hs
      · rw [h1] at hs; cases hs; rw [← e, hEc] at h3; cases h3
    have hl2 : List.map iv [L.f i 10, L.f i 0, L.f i 1] ++ List.map iv (List.map (fun j => L.f i (2 + j)) (List.range L.goods.toNat)) ++ List.map iv (List.map (fun j => L.f i (6 + j)) (List.range L.goods.toNat)) = (numsOf L i).map iv := by
      simp only [numsOf, List.map_append]
    rw [hl2] at ob2
    have hN : 3 + L.goods.toNat + L.goods.toNat = (numsOf L i).length := (numsOf_len L i).symm
    rw [hN] at ob2
    have hN11 : (numsOf L i).length ≤ 11 := by omega
    have hN0 : 0 < (numsOf L i).length := by omega
    have hbd := numsOf_bd hi hin
    obtain ⟨gg, cc, ccap, hs5, hgg, hsz, hget⟩ := ob_get ob2 hN0
    rw [hs5]
    simp only [vLenS_s]
    clear ob0 ob1 hlm hl2
    generalize hNs : numsOf L i = N at *
    refine lf_intro (fun m s' g' => ∃ j : Nat, s' = (.string ⟨(encL (N.take j)).toArray⟩, .int .i64 j) ∧ m = N.length - j ∧ j ≤ N.length ∧ g' = h5) N.length ⟨0, rfl, rfl, by omega, rfl⟩ ?_
    rintro m s' g' ⟨j, rfl, rfl, hj, rfl⟩
    unfold b10_9
    simp only [vBin_lss, dIf_b, decide_eq_true_eq, decide_eq_false_iff_not]
    have hlt1 : ∀ j, (encL (N.take j)).length ≤ 110 := fun j => by
      have := encL_len (l := N.take j) fun x hx => hbd x (List.mem_of_mem_take hx)
      have : (N.take j).length ≤ N.length := by rw [List.length_take]; omega
      omega
    refine ⟨fun hlt2 => ?_, fun hge => ?_⟩
    · have hjl : j < N.length := by omega
      obtain ⟨v, hv⟩ : ∃ v, N[j]? = some v := ⟨_, List.getElem?_eq_getElem hjl⟩
      have hvb := hbd v (List.mem_of_getElem? hv)
      obtain ⟨k, rfl⟩ : ∃ k : Nat, v = k := ⟨v.toNat, by omega⟩
      have hcj : cc[j]? = some (.int .i64 k) := by rw [hget j (by omega), List.getElem?_map, hv]; rfl
      simp only [vIxS_p]
      refine ⟨by omega, by omega, ?_⟩
      rw [vLoad_1 hgg (v := .int .i64 k) (by simpa using hcj)]
      refine putInt_ok (n := k) (by omega) ?_
      simp only [AEnd.elim, vExt_20, vExt_21]
      have h10 := encN_10 (n := k) (by omega)
      have hlj := hlt1 j
      rw [vBin_sadd _ _ _ (by simp [ByteArray.size]; omega)]
      simp only [vBin_add]
      rw [w64 (by omega) (by omega)]
      refine ⟨by trivial, N.length - (j + 1), by omega, j + 1, ?_, by trivial, by omega, by trivial⟩
      have e1 : encL (N.take (j + 1)) = encL (N.take j) ++ encN k := by
        rw [List.take_add_one, hv]
        simp [encL]
      have e2 : (⟨(encL (N.take j)).toArray⟩ : ByteArray) ++ ⟨(encN k).toArray⟩ = ⟨(encL (N.take (j + 1))).toArray⟩ := by
        apply ByteArray.ext
        rw [ByteArray.data_append, e1]
        simp
      rw [e2]
      rfl
    · have hjn : j = N.length := by omega
      subst hjn
      intro r hr
      simp only [Prod.mk.injEq] at hr
      obtain ⟨r0, r3, r4, r5, r6, r19, r20, r21⟩ := hr
      rw [r0, r3, r4, r5, r6, r19, r20, r21]
      have hcc : g' c = some (.cells (entCells L i) 66 (0, 0)) := ob2.sub _ _ hEc
      simp only [vFA_p, vLoad_1 hcc e11, Nat.zero_add]
      have hrep := hi.rep i hin
      refine putText_ok (by omega) ?_
      simp only [AEnd.elim, vExt_20, vExt_21]
      refine key_ok (by omega) ?_
      simp only [AEnd.elim]
      have hlj := hlt1 N.length
      have h10 := encN_10 (n := (L.r i).size) (by omega)
      have hzz : (L.r i).data.toList.length = (L.r i).size := by rw [Array.length_toList]; rfl
      rw [vBin_sadd _ _ _ (by simp only [ByteArray.size, List.size_toArray, List.length_append]; have := hzz; simp only [ByteArray.size] at *; omega)]
      have e3 : (⟨(encL (N.take N.length)).toArray⟩ : ByteArray) ++ ⟨(encN (L.r i).size ++ (L.r i).data.toList).toArray⟩ = ⟨(payB L i).toArray⟩ := by
        apply ByteArray.ext
        rw [ByteArray.data_append, List.take_length, payB, hNs]
        simp
      rw [e3]
      refine ⟨#[.string (keyB i), .string ⟨(payB L i).toArray⟩], rfl, ?_⟩
      refine ⟨_, fill_rec _ _, fun q' hq' => ?_⟩
      have hsG : Sub g (ins g' q' (.cells #[.string (keyB i), .string ⟨(payB L i).toArray⟩] 32)) := (hsE.trans ob2.sub).trans (sub_ins _ hq')
      refine ob_app (m := 1) (news := [.string (keyB i), .string ⟨(payB L i).toArray⟩]) (hob.up hsG) (by simp only [roomBytes]; omega) (by omega) rfl
        (fun K' hk' => .inr (.inr ⟨rfl, q', 0, 1, 1, _, _, _, rfl, ins_eq _ _ _, ?_, ?_, ?_⟩)) (fun b' off l cc' hx gg' cap hs => ?_) fun h6 s6 ob3 => ?_
      · simp
      · intro v hv
        have : v = .string (keyB i) ∨ v = .string ⟨(payB L i).toArray⟩ := by simpa using hv
        rcases this with rfl | rfl <;> rfl
      · exact hk'
      · cases hx
        intro e
        rcases hob.buf with ⟨h1, _⟩ | ⟨g2, c2, cap2, h1, h2, _⟩
        · rw [h1] at hs; cases hs
        · rw [h1] at hs; cases hs
          have := (hsE.trans ob2.sub) _ _ h2
          rw [← e, hq'] at this; cases this
      simp only [vBin_add]
      rw [w64 (by omega) (by omega)]
      rw [← recCells_succ] at ob3
      exact ⟨by simp, L.n - (i + 1), by omega, i + 1, s6, by simp, rfl, by omega, ob3⟩
  · have hin : i = L.n := by omega
    subst hin
    intro r hr
    rw [show r 3 = sv from hr]
    exact hR _ _ hob
end
end Go.Pw
