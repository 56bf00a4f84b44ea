/- Stores and rows: the executor tells the truth. -/
import Derived.Test.YtgpcjdmiecnphaaGreatPxK
set_option linter.unusedSimpArgs false
set_option linter.unusedVariables false
namespace Go.Px
open Go Go.Pw
section
variable {P : Program} {ns : List Nm} {E : CE} {ρ : Env} {H : CH} {h : PH} {k : KV} {kp : KP} {K : Value → PH → Prop} {call : CALL}

theorem toVs_setL {c vs : List CV} {xs ys : List Value} {o : Nat} (hc : toVs ns c = some xs) (hv : toVs ns vs = some ys) : toVs ns (setL c o vs) = some (xs.take o ++ (ys ++ xs.drop (o + ys.length))) := by
  unfold setL
  rw [toVs_len hv]
  exact toVs_append (toVs_take _ hc) (toVs_append hv (toVs_drop _ hc))
theorem store_ok (hE : RelE ns E ρ) (hH : RelH P ns H h) {n : Nat} {a x : Operand} (hq : (lStore n a x).1 call E H k kp = true) (hk : KOK P ns k K) : vStore n (evalE ρ a) (evalE ρ x) h (fun h' => K undef h') := by
  simp only [lStore] at hq
  cases ha : (oBx a).1 E with
  | none => rw [ha] at hq; cases hq
  | some av =>
    cases hx : (oBx x).1 E with
    | none => rw [ha, hx] at hq; cases hq
    | some v =>
      rw [ha, hx] at hq
      simp only at hq
      cases hp : asP av with
      | none => rw [hp] at hq; cases hq
      | some p =>
        rw [hp] at hq
        simp only at hq
        cases hc : asC (hGet p.1 H.m) with
        | none => rw [hc] at hq; cases hq
        | some c =>
          rw [hc] at hq
          simp only at hq
          cases h1 : Nat.beq (cellsX v).length n <;> cases h2 : (cellsX v).all oneX <;> rw [h1, h2] at hq <;> first | (cases hq; done) | skip
          simp only at hq
          cases hs : c.1.set p.2 (cellsX v) with
          | none => rw [hs] at hq; cases hq
          | some c' =>
            rw [hs] at hq
            simp only at hq
            obtain ⟨m, pre, xs, rest, g1, g2, g3, g4, g5, g6, g7⟩ := cells_at hH hc
            have va := o_ok hE ha
            rw [asP_ok hp] at va
            obtain ⟨m', e1, e2⟩ := toV_ptr va
            rw [g1] at e1; cases e1
            have vx := o_ok hE hx
            have vc := toV_cells vx
            have hl := toVs_len vc
            have hn := Nat.eq_of_beq_eq_true h1
            obtain ⟨s1, s2, s3⟩ := Cells.set_ok hs
            have hxl := toVs_len g5
            have hone := toVs_one vc h2
            simp only [Array.length_toList] at hl
            refine ⟨m.b, m.o + p.2, _, _, _, e2, g2, by omega, by simp; omega, by rw [List.all_eq_true]; exact hone, .inl (Nat.zero_le _), ?_⟩
            have hset := toVs_setL (o := p.2) g5 vc
            have hw : (wr (pre ++ xs ++ rest).toArray (m.o + p.2) (evalE ρ x).cells.toList) = (pre ++ (xs.take p.2 ++ ((evalE ρ x).cells.toList ++ xs.drop (p.2 + (evalE ρ x).cells.toList.length))) ++ rest).toArray := by
              apply Array.ext'
              rw [wr_list (by simp; omega)]
              simp only [List.append_assoc]
              rw [← g3, List.take_append, List.take_of_length_le (by omega : pre.length ≤ pre.length + p.2), show pre.length + p.2 - pre.length = p.2 by omega, List.take_append_of_le_length (by omega)]
              rw [List.drop_append, List.drop_eq_nil_of_le (by omega : pre.length ≤ pre.length + p.2 + (evalE ρ x).cells.toList.length), List.nil_append, show pre.length + p.2 + (evalE ρ x).cells.toList.length - pre.length = p.2 + (evalE ρ x).cells.toList.length by omega, List.drop_append_of_le_length (by simp; omega)]
              simp only [List.append_assoc]
            rw [hw]
            refine hk ns .und undef _ _ (Ext.refl ns) rfl ?_ hq
            refine hH.set (asC_ok hc) g1 ⟨pre, _, rest, ins_eq _ _ _, g3, s3, by rw [s2]; exact hset, fun y hy => ?_, fun n' hn' => ?_⟩
            · simp only [List.mem_append] at hy
              rcases hy with hy | hy | hy
              · exact g6 y (List.mem_of_mem_take hy)
              · exact hone y hy
              · exact g6 y (List.mem_of_mem_drop hy)
            · have := g7 n' hn'
              simp only [List.length_append, List.length_take, List.length_drop, Array.length_toList]
              omega

/-! ### rows -/
/-- A row goes on under a new number. -/
theorem RelH.moved {H : CH} {h : PH} (hr : RelH P ns H h) {b : Nat} {o0 o : CO} {m m' : Nm} (hb : H.at b = some o0) (hm : ns[b]? = some m) (hm' : m'.b = m.b) {x : Obj} (ho : OK P (ns ++ [m']) m' (ins h m.b x) o) :
    RelH P (ns ++ [m']) ((H.set b none).new o) (ins h m.b x) := by
  have at_set : ∀ {x : Nat} {u : CO}, (H.set b none).at x = some u → x ≠ b ∧ H.at x = some u := fun hx => by
    rcases CH.at_set hx with ⟨_, h⟩ | h
    · cases h
    · exact h
  have old : ∀ {y : Nat} {u : CO}, (H.set b none).at y = some u → ∃ k, ns[y]? = some k ∧ OK P ns k h u ∧ k.b ≠ m.b := fun hy => by
    obtain ⟨h1, h2⟩ := at_set hy
    obtain ⟨k, h3, h4⟩ := hr.obj _ _ h2
    exact ⟨k, h3, h4, fun e => h1 (hr.inj _ _ _ _ _ _ h2 hb h3 hm e)⟩
  have nw : (ns ++ [m'])[(H.set b none).n]? = some m' := by rw [show (H.set b none).n = H.n from rfl, hr.len]; simp
  refine ⟨by simp [CH.new, CH.set, hr.len], fun y u hy => ?_, fun y y' u u' k k' hy hy' hk hk' e => ?_⟩
  · rcases CH.at_new hy with ⟨rfl, rfl⟩ | ⟨hne, hy⟩
    · exact ⟨_, nw, ho⟩
    · obtain ⟨k, h1, h2, h3⟩ := old hy
      exact ⟨k, (Ext.one ns _).get h1, h2.ext (Ext.one ns _) fun o hh => by rw [ins_ne _ _ h3]; exact hh⟩
  · rcases CH.at_new hy with ⟨rfl, rfl⟩ | ⟨hne, hy⟩ <;> rcases CH.at_new hy' with ⟨rfl, rfl⟩ | ⟨hne', hy'⟩
    · rfl
    · obtain ⟨k2, h1, h2, h3⟩ := old hy'
      rw [nw] at hk; cases hk
      rw [(Ext.one ns _).get h1] at hk'; cases hk'
      exact absurd (e.symm.trans hm') h3
    · obtain ⟨k2, h1, h2, h3⟩ := old hy
      rw [nw] at hk'; cases hk'
      rw [(Ext.one ns _).get h1] at hk; cases hk
      exact absurd (e.trans hm') h3
    · obtain ⟨k1, h1, h2, h3⟩ := old hy
      obtain ⟨k2, g1, g2, g3⟩ := old hy'
      rw [(Ext.one ns _).get h1] at hk; cases hk
      rw [(Ext.one ns _).get g1] at hk'; cases hk'
      exact hr.inj _ _ _ _ _ _ (at_set hy).2 (at_set hy').2 h1 g1 e
theorem wr_in {pre xs rest news : List Value} {off l : Nat} (h1 : off + l ≤ xs.length) (h2 : off + l + news.length ≤ (xs ++ rest).length) :
    wr (pre ++ xs ++ rest).toArray (pre.length + (off + l)) news = (pre ++ xs.take off ++ ((xs.drop off).take l ++ news) ++ (xs ++ rest).drop (off + l + news.length)).toArray := by
  apply Array.ext'
  rw [wr_list (by simp at h2 ⊢; omega)]
  simp only [List.append_assoc]
  rw [List.take_append, List.take_of_length_le (by omega : pre.length ≤ pre.length + (off + l)), show pre.length + (off + l) - pre.length = off + l by omega, List.take_append_of_le_length (by omega)]
  rw [List.drop_append, List.drop_eq_nil_of_le (by omega : pre.length ≤ pre.length + (off + l) + news.length), List.nil_append, show pre.length + (off + l) + news.length - pre.length = off + l + news.length by omega]
  rw [List.take_add]
  simp only [List.append_assoc]
theorem src_ok (hH : RelH P ns H h) {str : Bool} {esz : Nat} {v : CV} {x : Value} {p : Nat × Ch} (hx : toV ns v = some x) (hq : (xSrc str esz).1 v H = some p) :
    ∃ news, (∀ KK : Nat → List Value → Prop, KK p.1 news → srcCells str esz x h KK) ∧ toVs ns p.2.toL = some news ∧ p.2.k = p.2.toL.length ∧ (∀ y ∈ news, y.oneCell' = true) ∧ news.length = p.1 * esz := by
  unfold xSrc at hq
  cases str with
  | true =>
    simp only at hq
    cases he : Nat.beq esz 1 with
    | false => rw [he] at hq; cases hq
    | true =>
      rw [he] at hq
      simp only at hq
      cases hs : asS v with
      | none => rw [hs] at hq; cases hq
      | some l =>
        rw [hs] at hq
        cases hq
        rw [asS_ok hs] at hx
        have e1 := Nat.eq_of_beq_eq_true he
        subst e1
        rw [toV_str hx]
        refine ⟨Pw.byteCells (l.map UInt8.ofNat), fun KK hkk => .inl ⟨rfl, _, rfl, rfl, by rw [bytesN_size, bytesN_list]; exact hkk⟩, byteX_to l, by simp [Ch.k, Ch.toL, byteX], fun y hy => ?_, by simp [Pw.byteCells]⟩
        simp only [Pw.byteCells, List.mem_map] at hy
        obtain ⟨_, _, rfl⟩ := hy
        rfl
  | false =>
    simp only at hq
    split at hq
    · cases hq
      simp only [toV, Option.some.injEq] at hx
      subst hx
      exact ⟨[], fun KK hkk => .inr (.inl ⟨rfl, 0, rfl, hkk⟩), rfl, rfl, (fun y hy => absurd hy (List.not_mem_nil)), (Nat.zero_mul esz).symm⟩
    · cases hl : asL v with
      | none => rw [hl] at hq; cases hq
      | some q =>
        rw [hl] at hq
        simp only at hq
        cases hc : asC (H.at q.1) with
        | none => rw [hc] at hq; cases hq
        | some c =>
          rw [hc] at hq
          simp only at hq
          cases hr : c.1.rng q.2.1 (q.2.2 * esz) with
          | none => rw [hr] at hq; cases hq
          | some r =>
            rw [hr] at hq
            cases hq
            obtain ⟨m, pre, xs, rest, g1, g2, g3, g4, g5, g6, g7⟩ := cells_at hH hc
            obtain ⟨m', cap, e1, rfl⟩ := asL_ok hl hx
            rw [g1] at e1; cases e1
            obtain ⟨r1, rfl⟩ := Cells.rng_ok hr
            have hxl := toVs_len g5
            have hd : ((pre ++ xs ++ rest).toArray.toList.drop (m.o + q.2.1)).take (q.2.2 * esz) = (xs.drop q.2.1).take (q.2.2 * esz) := by
              simp only [List.append_assoc]
              rw [List.drop_append, List.drop_eq_nil_of_le (by omega), List.nil_append, show m.o + q.2.1 - pre.length = q.2.1 by omega, List.drop_append_of_le_length (by omega), List.take_append_of_le_length (by simp; omega)]
            refine ⟨(xs.drop q.2.1).take (q.2.2 * esz), fun KK hkk => .inr (.inr ⟨rfl, _, _, _, _, _, _, _, rfl, g2, by simp; omega, ?_, ?_⟩), toVs_take _ (toVs_drop _ g5), by simp [Ch.k, Ch.toL]; omega, fun y hy => g6 y (List.mem_of_mem_drop (List.mem_of_mem_take hy)), by simp; omega⟩
            · rw [hd]; exact fun y hy => g6 y (List.mem_of_mem_drop (List.mem_of_mem_take hy))
            · rw [hd]; exact hkk
theorem app_ok (hE : RelE ns E ρ) (hH : RelH P ns H h) {e : TypeId} {i : TypeInfo} (hi : P.info? e = some i) {str : Bool} {s x : Operand} (hpos : 0 < i.size)
    (hq : (lApp e i.size i.bytes (xSrc str i.size) s x).1 call E H k kp = true) (hk : KOK P ns k K) : vAppend str e i.size i.bytes (evalE ρ s) (evalE ρ x) h K := by
  simp only [lApp] at hq
  cases hs : (oBx s).1 E with
  | none => rw [hs] at hq; cases hq
  | some sv =>
    cases hx : (oBx x).1 E with
    | none => rw [hs, hx] at hq; cases hq
    | some xv =>
      rw [hs, hx] at hq
      simp only at hq
      cases hp : (xSrc str i.size).1 xv H with
      | none => rw [hp] at hq; cases hq
      | some p =>
        rw [hp] at hq
        obtain ⟨n, ch⟩ := p
        obtain ⟨news, n1, n2, n3, n4, n5⟩ := src_ok hH (o_ok hE hx) hp
        simp only at hq n1 n2 n3 n5
        refine n1 _ ?_
        have vs := o_ok hE hs
        have hsz : ∀ {n' : Nat}, sizeOf' P e = some n' → n' = i.size := fun hn => info_size hi hn
        have onerope : (Cells.rope ch.k [ch]).wf := ⟨n3, Nat.le_refl _, by simp [ropeW]⟩
        have toone : toVs ns (Cells.rope ch.k [ch]).toL = some news := by simpa [Cells.toL, ropeL] using n2
        unfold xApp at hq
        split at hq
        · -- nil
          simp only [toV, Option.some.injEq] at vs
          left
          refine ⟨vs.symm, fun hn => ?_, fun hn => ?_⟩
          · subst hn
            exact hk ns _ _ _ _ (Ext.refl ns) rfl hH hq
          · obtain ⟨n', rfl⟩ : ∃ n', n = n' + 1 := ⟨n - 1, by omega⟩
            simp only [apNil] at hq
            cases hb : Nat.ble ((n' + 1) * i.bytes) roomBytes with
            | false => rw [hb] at hq; cases hq
            | true =>
              rw [hb] at hq
              simp only [newK_eq] at hq
              refine ⟨Nat.le_of_ble_eq_true hb, fun b cap rest hb0 hcap hlen => ?_⟩
              exact hk _ _ _ _ _ (Ext.one ns _) (new_sl hH b hcap) (new_cells hH hb0 onerope toone n4 fun n'' hn'' => by rw [hsz hn'']; omega) hq
        · -- a row
          rename_i b off len j
          obtain ⟨m, e1, e2, e3⟩ := toV_sl vs
          simp only [apRow] at hq
          cases hc : asC (H.at b) with
          | none => rw [hc] at hq; cases hq
          | some c =>
            rw [hc] at hq
            simp only at hq
            cases h1 : Nat.beq e c.2 <;> cases h2 : Nat.ble ((len + n) * i.bytes) roomBytes <;> cases h3 : Nat.ble off (j * i.size) <;> rw [h1, h2, h3] at hq <;> first | (cases hq; done) | skip
            simp only at hq
            have he := Nat.eq_of_beq_eq_true h1
            have hroom := Nat.le_of_ble_eq_true h2
            have hoff := Nat.le_of_ble_eq_true h3
            cases ha : c.1.app off (len * i.size) ch with
            | none => rw [ha] at hq; cases hq
            | some c' =>
              rw [ha] at hq
              simp only [newK_eq] at hq
              obtain ⟨m', pre, xs, rest, g1, g2, g3, g4, g5, g6, g7⟩ := cells_at hH hc
              rw [g1] at e1; cases e1
              rw [← he] at g2 g7
              obtain ⟨a1, a2, a3⟩ := Cells.app_ok g4 n3 ha
              have hxl := toVs_len g5
              have hcap : m.c * i.size ≤ xs.length + rest.length := g7 i.size (by simp [sizeOf', hi])
              have hd : ((pre ++ xs ++ rest).toArray.toList.drop (m.o + off)).take (len * i.size) = (xs.drop off).take (len * i.size) := by
                simp only [List.append_assoc]
                rw [List.drop_append, List.drop_eq_nil_of_le (by omega), List.nil_append, show m.o + off - pre.length = off by omega, List.drop_append_of_le_length (by omega), List.take_append_of_le_length (by simp; omega)]
              have hone : ∀ y ∈ (xs.drop off).take (len * i.size), y.oneCell' = true := fun y hy => g6 y (List.mem_of_mem_drop (List.mem_of_mem_take hy))
              have hnew : toVs ns c'.toL = some ((xs.drop off).take (len * i.size) ++ news) := by rw [a2]; exact toVs_append (toVs_take _ (toVs_drop _ g5)) n2
              have hnone : ∀ y ∈ (xs.drop off).take (len * i.size) ++ news, y.oneCell' = true := fun y hy => by
                rcases List.mem_append.1 hy with hy | hy
                · exact hone y hy
                · exact n4 y hy
              have hdrop := hH.drop b
              right; right
              refine ⟨m.b, m.o + off, len, m.c - j, (pre ++ xs ++ rest).toArray, e, (0, 0), e3, ?_⟩
              by_cases hfit : len + n ≤ m.c - j
              · left
                have hmul : (len + n) * i.size ≤ (m.c - j) * i.size := Nat.mul_le_mul_right _ hfit
                rw [Nat.add_mul] at hmul
                have hmul2 : (m.c - j) * i.size + off ≤ xs.length + rest.length := by
                  by_cases hjm : j ≤ m.c
                  · have hjm : j * i.size ≤ m.c * i.size := Nat.mul_le_mul_right _ hjm
                    rw [Nat.sub_mul]; omega
                  · rw [show m.c - j = 0 by omega]; omega
                refine ⟨hfit, g2, by simp; omega, .inl (Nat.zero_le _), ?_⟩
                have hN : (ns ++ [(⟨m.b, m.o + off, m.c - j⟩ : Nm)])[H.n]? = some ⟨m.b, m.o + off, m.c - j⟩ := new_name hH _
                refine hk (ns ++ [⟨m.b, m.o + off, m.c - j⟩]) _ _ _ _ (Ext.one ns _) (mk_sl (o := 0) (i := 0) hN (by simpa using hfit)) ?_ hq
                refine hH.moved (asC_ok hc) g1 (m' := ⟨m.b, m.o + off, m.c - j⟩) rfl ⟨pre ++ xs.take off, (xs.drop off).take (len * i.size) ++ news, (xs ++ rest).drop (off + len * i.size + news.length), ?_, by simp; omega, a3, toVs_ext (Ext.one ns _) _ hnew, hnone, fun n'' hn'' => ?_⟩
                · rw [ins_eq]
                  congr 2
                  rw [← g3, show pre.length + off + len * i.size = pre.length + (off + len * i.size) by omega]
                  exact wr_in (by omega) (by simp; omega)
                · rw [hsz hn'']; simp only [List.length_append, List.length_take, List.length_drop]; omega
              · right
                refine ⟨by omega, hroom, by omega, g2, by simp; omega, by rw [hd]; exact hone, fun b' cap' rest' hb' hc' hlen => ?_⟩
                rw [hd] at hlen ⊢
                exact hk _ _ _ _ _ (Ext.one ns _) (new_sl (H := H.set b none) hdrop b' hc') (new_cells hdrop hb' a3 hnew hnone fun n'' hn'' => by rw [hsz hn'']; simp only [List.length_append] at hlen ⊢; omega) hq
        · -- no element
          rename_i b off off' j
          simp only [toV] at vs
          cases hm : ns[b]? with
          | none => rw [hm] at vs; cases vs
          | some m =>
            rw [hm] at vs
            simp only at vs
            cases hj : Nat.ble j m.c with
            | false => rw [hj] at vs; cases vs
            | true =>
              rw [hj] at vs
              simp only [Option.some.injEq] at vs
              unfold apEnd at hq
              cases n with
              | zero => cases hq
              | succ n =>
                simp only at hq
                cases hc : asC (H.at b) with
                | none => rw [hc] at hq; cases hq
                | some c =>
                  rw [hc] at hq
                  simp only at hq
                  cases h1 : Nat.beq e c.2 <;> cases h2 : (Nat.ble off c.1.len && Nat.ble off' c.1.len) <;> cases h3 : Nat.ble ((n + 1) * i.bytes) roomBytes <;> cases h4 : Nat.ble off' (j * i.size) <;> rw [h1, h2, h3, h4] at hq <;> first | (cases hq; done) | skip
                  simp only [newK_eq] at hq
                  have he := Nat.eq_of_beq_eq_true h1
                  have hroom := Nat.le_of_ble_eq_true h3
                  have hoff := Nat.le_of_ble_eq_true h4
                  have hjc := Nat.le_of_ble_eq_true hj
                  rw [Bool.and_eq_true] at h2
                  have ho1 := Nat.le_of_ble_eq_true h2.1
                  have ho2 := Nat.le_of_ble_eq_true h2.2
                  obtain ⟨m', pre, xs, rest, g1, g2, g3, g4, g5, g6, g7⟩ := cells_at hH hc
                  rw [hm] at g1; cases g1
                  rw [← he] at g2 g7
                  have hxl := toVs_len g5
                  rw [Cells.toL_len] at hxl
                  have hcap : m.c * i.size ≤ xs.length + rest.length := g7 i.size (by simp [sizeOf', hi])
                  have hdrop := hH.drop b
                  right; right
                  obtain ⟨oo, hlt, hof, vs⟩ : ∃ oo, oo ≤ c.1.len ∧ (1 ≤ m.c - j → oo = off') ∧ Value.slice (some ⟨m.b, m.o + oo, none⟩) 0 (m.c - j) = evalE ρ s := by
                    cases hmj : m.c - j with
                    | zero => rw [hmj] at vs; exact ⟨off, ho1, by omega, vs⟩
                    | succ q => rw [hmj] at vs; exact ⟨off', ho2, fun _ => rfl, vs⟩
                  refine ⟨m.b, _, 0, m.c - j, (pre ++ xs ++ rest).toArray, e, (0, 0), vs.symm, ?_⟩
                  by_cases hfit : 0 + (n + 1) ≤ m.c - j
                  · left
                    have hof := hof (by omega); subst oo
                    have hmul : (n + 1) * i.size ≤ (m.c - j) * i.size := Nat.mul_le_mul_right _ (by omega)
                    rw [Nat.sub_mul] at hmul
                    have hjm : j * i.size ≤ m.c * i.size := Nat.mul_le_mul_right _ (by omega)
                    refine ⟨hfit, g2, by simp; omega, .inl (Nat.zero_le _), ?_⟩
                    have hN : (ns ++ [(⟨m.b, m.o + off', m.c - j⟩ : Nm)])[H.n]? = some ⟨m.b, m.o + off', m.c - j⟩ := new_name hH _
                    have hsl := mk_sl (o := 0) (i := 0) (l := n + 1) hN (by simp; omega)
                    simp only [Nat.add_zero, Nat.sub_zero] at hsl
                    rw [Nat.zero_add]
                    refine hk (ns ++ [⟨m.b, m.o + off', m.c - j⟩]) _ _ _ _ (Ext.one ns _) hsl ?_ hq
                    refine hH.moved (asC_ok hc) hm (m' := ⟨m.b, m.o + off', m.c - j⟩) rfl ⟨pre ++ xs.take off', news, (xs ++ rest).drop (off' + news.length), ?_, by simp; omega, onerope, toVs_ext (Ext.one ns _) _ toone, n4, fun n'' hn'' => ?_⟩
                    · rw [ins_eq]
                      congr 2
                      have := wr_in (pre := pre) (xs := xs) (rest := rest) (off := off') (l := 0) (news := news) (by omega) (by simp; omega)
                      rw [← g3, show pre.length + off' + 0 * i.size = pre.length + (off' + 0) by omega, this]
                      simp
                    · rw [hsz hn'']; simp only [List.length_append, List.length_drop]; rw [Nat.sub_mul]; omega
                  · right
                    refine ⟨by omega, by rw [Nat.zero_add]; exact hroom, by omega, g2, by simp; omega, by simp, fun b' cap' rest' hb' hc' hlen => ?_⟩
                    simp only [Nat.zero_mul, List.take_zero, List.nil_append, Nat.zero_add] at hlen hc' ⊢
                    exact hk _ _ _ _ _ (Ext.one ns _) (new_sl (H := H.set b none) hdrop b' hc') (new_cells hdrop hb' onerope toone n4 fun n'' hn'' => by rw [hsz hn'']; omega) hq
        · cases hq
end
end Go.Px
