/- The words of PwC tell the truth of the model's operations: stores, new rows, appends, calls, panics. -/
import Derived.Test.YtgpcjdmiecnphaaGreatPwE
set_option linter.unusedSimpArgs false
set_option linter.unusedVariables false
namespace Go.Pw
open Go
section
variable {P : Program} {ρ : Env} {h : PH} {qf : FuncId → Bool}

theorem heap_setCell {w : World} {b o : Nat} {v : Value} {c : Array Value} {e : TypeId} {fr : Nat × Nat} (hb : w.heap[b]? = some (.cells c e fr)) :
    (w.setCell ⟨b, o, none⟩ v).heap[b]? = some (.cells (c.setIfInBounds o v) e fr) := by
  simp [World.setCell, Array.getElem?_modify, hb]
theorem heap_setCell_ne {w : World} {b o x : Nat} {v : Value} (hx : x ≠ b) : (w.setCell ⟨b, o, none⟩ v).heap[x]? = w.heap[x]? := by
  simp [World.setCell, Array.getElem?_modify, Ne.symm hx]

theorem setCells_spec (b : Nat) {e : TypeId} {fr : Nat × Nat} : ∀ (vs : List Value) (o : Nat) (w : World) (c : Array Value), w.heap[b]? = some (.cells c e fr) →
    (w.setCells b o vs).heap[b]? = some (.cells (wr c o vs) e fr) ∧ (∀ x, x ≠ b → (w.setCells b o vs).heap[x]? = w.heap[x]?) ∧ (w.setCells b o vs).heap.size = w.heap.size ∧
    (w.setCells b o vs).os = w.os ∧ (w.setCells b o vs).tape = w.tape ∧ (w.setCells b o vs).output = w.output
  | [], o, w, c, hb => ⟨hb, fun _ _ => rfl, rfl, rfl, rfl, rfl⟩
  | v :: r, o, w, c, hb => by
    obtain ⟨h1, h2, h3, h4, h5, h6⟩ := setCells_spec b r (o + 1) (w.setCell ⟨b, o, none⟩ v) _ (heap_setCell (o := o) (v := v) hb)
    refine ⟨h1, fun x hx => (h2 x hx).trans (heap_setCell_ne hx), h3.trans ?_, h4, h5, h6⟩
    simp [World.setCell]

theorem wr_append : ∀ (a vs d : List Value), wr (a ++ vs.map (fun _ => undef) ++ d).toArray a.length vs = (a ++ vs ++ d).toArray
  | a, [], d => by simp [wr]
  | a, v :: vs, d => by
    have ih := wr_append (a ++ [v]) vs d
    simp only [List.map_cons, wr]
    have : ((a ++ undef :: List.map (fun _ => undef) vs ++ d).toArray).setIfInBounds a.length v = (a ++ [v] ++ vs.map (fun _ => undef) ++ d).toArray := by
      apply Array.ext'
      simp
    rw [this]
    simpa using ih

theorem wr_size : ∀ (vs : List Value) (c : Array Value) (o : Nat), (wr c o vs).size = c.size
  | [], _, _ => rfl
  | v :: vs, c, o => by rw [wr, wr_size vs]; simp
theorem wr_getElem : ∀ (vs : List Value) (c : Array Value) (o j : Nat), (wr c o vs)[j]? = if o ≤ j ∧ j < o + vs.length ∧ j < c.size then vs[j - o]? else c[j]?
  | [], c, o, j => by rw [if_neg (by simp; omega)]; rfl
  | v :: vs, c, o, j => by
    rw [wr, wr_getElem vs]
    simp only [Array.size_setIfInBounds, List.length_cons]
    by_cases h1 : o = j
    · subst h1
      rw [if_neg (by omega)]
      by_cases h2 : o < c.size
      · rw [if_pos ⟨by omega, by omega, h2⟩]; simp [h2]
      · rw [if_neg (by omega)]; simp [h2]
    · rw [Array.getElem?_setIfInBounds_ne h1]
      by_cases h2 : o + 1 ≤ j ∧ j < o + 1 + vs.length ∧ j < c.size
      · rw [if_pos h2, if_pos (by omega)]
        have : j - o = (j - (o + 1)) + 1 := by omega
        rw [this, List.getElem?_cons_succ]
      · rw [if_neg h2, if_neg (by omega)]

/-- Storing behind the first k cells. -/
theorem wr_behind {c : Array Value} {k : Nat} {vs : List Value} (hk : k + vs.length ≤ c.size) : wr c k vs = (c.toList.take k ++ vs ++ c.toList.drop (k + vs.length)).toArray := by
  apply Array.ext_getElem?
  intro j
  rw [wr_getElem]
  simp only [List.getElem?_toArray]
  by_cases h1 : k ≤ j ∧ j < k + vs.length ∧ j < c.size
  · rw [if_pos h1, List.getElem?_append_left (by simp; omega), List.getElem?_append_right (by simp; omega)]
    congr 1
    simp; omega
  · rw [if_neg h1]
    by_cases h2 : j < k
    · rw [List.getElem?_append_left (by simp; omega), List.getElem?_append_left (by simp; omega), List.getElem?_take, if_pos h2]; simp
    · have h3 : k + vs.length ≤ j := by
        rcases Nat.lt_or_ge j (k + vs.length) with h | h
        · exact absurd ⟨by omega, h, by omega⟩ h1
        · exact h
      rw [List.getElem?_append_right (by simp; omega), List.getElem?_drop]
      simp
      congr 1
      omega

theorem frozen_of {w : World} {b off n : Nat} {c : Array Value} {e : TypeId} {fr : Nat × Nat} (hb : w.heap[b]? = some (.cells c e fr)) (hf : frOK fr off n) (j : Nat) (hj : j < n) : w.frozen? ⟨b, off + j, none⟩ = false := by
  unfold World.frozen?
  rw [hb]
  obtain ⟨lo, hi⟩ := fr
  unfold frOK at hf
  simp at hf ⊢
  omega

theorem run_storeCellsAt {w : World} {b off : Nat} {c : Array Value} {e : TypeId} {fr : Nat × Nat} {vs : List Value} (hb : w.heap[b]? = some (.cells c e fr)) (hl : off + vs.length ≤ c.size) (ho : vs.all Value.oneCell' = true) (hf : frOK fr off vs.length) :
    (storeCells ⟨b, off, none⟩ vs).run P w = .ok () (w.setCells b off vs) := by
  have := run_storeCells_cells (P := P) b off vs 0 w (fun j hj => by
    rw [Nat.add_zero, cell_of hb]
    simp; omega) (fun j hj => by rw [Nat.add_zero]; exact frozen_of hb hf j hj) (fun v hv => List.all_eq_true.1 ho v hv)
  simpa using this

theorem Holds.set {w w' : World} {b : Nat} {o : Obj} (hw : Holds h w) (h1 : w'.heap[b]? = some o) (h2 : ∀ x, x ≠ b → w'.heap[x]? = w.heap[x]?) : Holds (ins h b o) w' := fun x p hp => by
  by_cases hx : x = b
  · subst hx; rw [ins_eq] at hp; injection hp with hp; subst hp; exact h1
  · rw [ins_ne _ _ hx] at hp; rw [h2 x hx]; exact hw x p hp

theorem Framed.set {w w' : World} {b : Nat} {o p : Obj} (hb : h b = some o) (h2 : ∀ x, x ≠ b → w'.heap[x]? = w.heap[x]?) (h3 : w'.heap.size = w.heap.size) (h4 : w'.os = w.os) (h5 : w'.tape = w.tape) (h6 : w'.output = w.output) : Framed h (ins h b p) w w' :=
  ⟨h4, h5, h6, Nat.le_of_eq h3.symm, fun x hx hn => by
    have hxb : x ≠ b := fun e => by subst e; rw [hb] at hn; cases hn
    exact ⟨by rw [ins_ne _ _ hxb]; exact hn, h2 x hxb⟩⟩

theorem heap_push_last (a : Array Obj) (o : Obj) : (a.push o)[a.size]? = some o := by simp
theorem heap_push_ne (a : Array Obj) (o : Obj) {x : Nat} (hx : x ≠ a.size) : (a.push o)[x]? = a[x]? := by
  rw [Array.getElem?_push]; rw [if_neg hx]

theorem Holds.push {w w' : World} {o : Obj} (hw : Holds h w) (he : w'.heap = w.heap.push o) : Holds (ins h w.heap.size o) w' := fun x p hp => by
  rw [he]
  by_cases hx : x = w.heap.size
  · subst hx; rw [ins_eq] at hp; injection hp with hp; subst hp; exact heap_push_last _ _
  · rw [ins_ne _ _ hx] at hp; rw [heap_push_ne _ _ hx]; exact hw x p hp
theorem Framed.push {w w' : World} {o : Obj} (he : w'.heap = w.heap.push o) (h4 : w'.os = w.os) (h5 : w'.tape = w.tape) (h6 : w'.output = w.output) : Framed h (ins h w.heap.size o) w w' :=
  ⟨h4, h5, h6, by rw [he]; simp, fun x hx hn => by
    have hxb : x ≠ w.heap.size := by omega
    exact ⟨by rw [ins_ne _ _ hxb]; exact hn, by rw [he, heap_push_ne _ _ hxb]⟩⟩

theorem asks_of {o : Oper} {s : Sem Value} {w : World} (heq : execOp (evalE ρ) o = s.bind (fun v => Sem.pure (Next.value v))) (hev : noRoomEvent ∈ (s.runT P w #[]).2) (hen : (s.run P w).enabled) :
    noRoomEvent ∈ ((execOp (evalE ρ) o).runT P w #[]).2 ∧ match (execOp (evalE ρ) o).run P w with
      | .halt .blocked _ | .halt .waiting _ | .halt (.unsupported (.initOrder _)) _ => False
      | _ => True := by
  rw [heq]
  refine ⟨Sem.events_bind_left w _ _ _ _ hev, ?_⟩
  have hb : (s.bind (fun v => Sem.pure (Next.value v))).run P w = (s.run P w).andThen fun v w' => .ok (Next.value v) w' := Sem.run_bind' P _ _ w
  rw [hb]
  cases hr : s.run P w with
  | ok v w' => trivial
  | halt h w' =>
    have h3 := hen w'
    rw [hr] at h3
    simp only [Result.andThen]
    cases h with
    | blocked => exact absurd rfl h3.1
    | waiting => exact absurd rfl h3.2.1
    | unsupported u => cases u <;> first | trivial | exact absurd rfl (h3.2.2 _)
    | _ => trivial

theorem heap_da (w : World) {X Y : Array Value} (e : TypeId) (hx : X.toList = Y.toList) : (w.drew.alloc (.cells X e)).heap = w.heap.push (.cells Y e) := by
  have : X = Y := Array.ext' hx
  subst this
  rfl
theorem range0 (f : Nat → Value) : (Array.range 0).map f = #[] := by apply Array.ext'; simp
theorem mul_rep (z : Array Value) (n m : Nat) (hz : z.size = n) : (Builtin.zeroCells z m).toList.length = m * n := by
  rw [Array.length_toList, size_zeroCells, hz]

/-- The law on append, for this layer. -/
theorem append_sound {t tx ty e : TypeId} {i : TypeInfo} {z : Value} {d : TypeDesc} (ht : P.underlying t = some (.slice e)) (hi : P.info? e = some i) (hz : i.zero = some z)
    (htx : P.underlying tx = some d) (hd : ∀ k, d ≠ .int k) (hs0 : 0 < i.size) (hb0 : 0 < i.bytes) (hzs : z.cells.size = i.size) {str : Bool} (hstr : (str = true ∧ d = .string) ∨ (str = false ∧ ∃ e', d = .slice e'))
    {s x : Value} {K : Value → PH → Prop} (hv : vAppend str e i.size i.bytes s x h K) {w : World} (hw : Holds h w) :
    (∃ v' w', (Builtin.append_ #[t, tx] ty #[s, x]).run P w = .ok v' w' ∧ ∃ h', Holds h' w' ∧ Framed h h' w w' ∧ K v' h') ∨
    False := by
  -- the source
  have src : ∃ n news, (Src P i.size tx x n news w) ∧ Builtin.lenOf x = Sem.pure n ∧
      (∀ sLen base, (∀ a, base = some a → Room.holdsV w a (sLen * i.size) = true ∧ w.frozen? (a.add (sLen / 2 * i.size)) = false ∧ ∀ b off l c, x = .slice (some ⟨b, off, none⟩) l c → b ≠ a.block) → 0 < n → (Builtin.mayShare i.size sLen n base x).runT P w #[] = (.ok false w, #[])) ∧
      ((s = .slice none 0 0 ∧ (n = 0 → K (.slice none 0 0) h) ∧
        (0 < n → n * i.bytes ≤ roomBytes ∧ ∀ b cap rest, h b = none → n ≤ cap → news.length + rest.length = cap * i.size → K (.slice (some ⟨b, 0, none⟩) n cap) (ins h b (.cells (news ++ rest).toArray e)))) ∨
      (∃ g len cap c, s = .slice (some ⟨g, 0, none⟩) len cap ∧ h g = some (.cells c e (0, 0)) ∧ c.size = cap * i.size ∧ len ≤ cap ∧ (len + n) * i.bytes ≤ roomBytes ∧ (∀ b off l c, x = .slice (some ⟨b, off, none⟩) l c → b ≠ g) ∧
        ∀ b cap' rest, (b = g ∨ h b = none) → len + n ≤ cap' → (c.toList.take (len * i.size) ++ news).length + rest.length = cap' * i.size →
          K (.slice (some ⟨b, 0, none⟩) (len + n) cap') (ins (dropB h g) b (.cells (c.toList.take (len * i.size) ++ news ++ rest).toArray e))) ∨
      vAppIn e i.size i.bytes n news s h K) := by
    rcases hv with ⟨hst, sv, rfl, h1, hk⟩ | ⟨hst, c, rfl, hk⟩ | ⟨hst, b, off, len, cap, c, e', fr, rfl, hb, hl, hone, hk⟩
    · have hds : d = .string := by rcases hstr with ⟨_, h⟩ | ⟨h, _⟩; exact h; rw [hst] at h; cases h
      subst hds
      refine ⟨sv.size, Go.byteCells sv, by rw [h1]; exact Src.ofString w htx sv, rfl, fun sLen base ha _ => ?_, hk⟩
      exact runT_mayShare_string w i.size sLen sv.size base sv fun a hba => ⟨(ha a hba).1, (ha a hba).2.1⟩
    · have hds : ∃ e', d = .slice e' := by rcases hstr with ⟨h, _⟩ | ⟨_, h⟩; rw [hst] at h; cases h; exact h
      obtain ⟨e', rfl⟩ := hds
      exact ⟨0, [], Src.ofNil w htx c, rfl, fun _ _ _ h0 => absurd h0 (by omega), hk⟩
    · have hds : ∃ e', d = .slice e' := by rcases hstr with ⟨h, _⟩ | ⟨_, h⟩; rw [hst] at h; cases h; exact h
      obtain ⟨e'', rfl⟩ := hds
      have hbw := hw b _ hb
      have hcell : ∀ j u, ((c.toList.drop off).take (len * i.size))[j]? = some u → w.cell? ((⟨b, off, none⟩ : Addr).add j) = some u := fun j u hu => by
        rw [add_lit, cell_of hbw, ← Array.getElem?_toList]
        rw [List.getElem?_take] at hu
        split at hu
        · rw [List.getElem?_drop] at hu; exact hu
        · cases hu
      refine ⟨len, _, Src.ofSlice w htx ⟨b, off, none⟩ len cap _ (by simp; omega) hcell hone, rfl, fun sLen base ha h0 => ?_, hk⟩
      have hx : Room.holdsV w ⟨b, off, none⟩ (len * i.size) = true := by
        simp [Room.holdsV, World.shape?, hbw]; omega
      cases base with
      | none =>
        simp [-Sem.runT_eq, Builtin.mayShare, Room.Sem.bind_def, Room.Sem.runT_bind, Room.runT_holdsCells', Room.Sem.runT_pure', hx]
      | some a =>
        obtain ⟨a1, a2, a3⟩ := ha a rfl
        have hne := a3 b off len cap rfl
        simp [-Sem.runT_eq, Builtin.mayShare, Room.Sem.bind_def, frozen, Sem.bind, Sem.runT, Room.Sem.runT_bind, Room.runT_holdsCells', Room.Sem.runT_pure', a1, hx, a2, Ne.symm hne]
  obtain ⟨n, news, hsrc, hlen, hshare, hk⟩ := src
  rcases hk with ⟨rfl, hk0, hk⟩ | ⟨g, len, cap, c, rfl, hg, hcs, hle, hcap, hap, hk⟩ | ⟨g, off, len, cap, c, e', fr, rfl, hin⟩
  rotate_left 2
  · -- in place, or away from a row of another one's
    left
    rcases hin with ⟨hroom, hg, hfit, hfr, hk⟩ | ⟨hroom, hB, hcn, hg, hlsz, hone, hk⟩
    · have hgw := hw g _ hg
      have hr := run_append_room_src (P := P) w t tx ty e i ht hi g off len cap x n news hsrc hroom (fun j hj => by
        rw [cell_of hgw]; simp; omega) (fun j hj => frozen_of hgw hfr j hj)
      obtain ⟨s1, s2, s3, s4, s5, s6⟩ := setCells_spec g news (off + len * i.size) w c hgw
      exact ⟨_, _, hr, _, hw.set s1 s2, Framed.set hg s2 s3 s4 s5 s6, hk⟩
    · have hgw := hw g _ hg
      have hold : (Builtin.firstCells i.size len (.slice (some ⟨g, off, none⟩) len cap)).run P w.drew = .ok ((c.toList.drop off).take (len * i.size)).toArray w.drew :=
        run_firstCells_some w.drew i.size len ⟨g, off, none⟩ len cap _ (by simp; omega) (fun j u hu => by
          rw [add_lit]
          have : w.drew.heap[g]? = some (.cells c e' (0, 0)) := hgw
          rw [cell_of this, ← Array.getElem?_toList]
          rw [List.getElem?_take] at hu
          split at hu
          · rw [List.getElem?_drop] at hu; exact hu
          · cases hu)
      have hB' : (len + n) * i.bytes ≤ 140737488355328 := by simpa [roomBytes] using hB
      have hnb : (len + n) ≤ (len + n) * i.bytes := Nat.le_mul_of_pos_right _ hb0
      have hfit : Builtin.nextslicecap (len + n) cap * i.bytes ≤ 281474976710656 := growslice_fits (by omega) hB'
      have hr := run_append_grow_src (P := P) w t tx ty e i z ht hi hz (some ⟨g, off, none⟩) len cap _ hold x n news hsrc (by omega) (by omega) hfit
      have hge := grownCap_ge w (len + n) cap e
      refine ⟨_, _, hr, _, Holds.push hw (heap_da w e (by simp)), Framed.push (heap_da w e (by simp)) rfl rfl rfl, hk w.heap.size (grownCap w (len + n) cap e) (Builtin.zeroCells z.cells (grownCap w (len + n) cap e - (len + n))).toList (hw.none (Nat.le_refl _)) hge ?_⟩
      rw [mul_rep _ _ _ hzs, List.length_append, hsrc.newsLen]
      have : ((c.toList.drop off).take (len * i.size)).length = len * i.size := by simp; omega
      rw [this, ← Nat.add_mul, ← Nat.add_mul]; congr 1; omega
  · -- onto nil
    have hold : (Builtin.firstCells i.size 0 (.slice none 0 0)).run P w.drew = .ok ([] : List Value).toArray w.drew := run_firstCells_none w.drew i.size 0 0 0
    by_cases hn0 : n = 0
    · subst hn0
      left
      refine ⟨.slice none 0 0, w, ?_, h, hw, Framed.refl h w, hk0 rfl⟩
      have hnl : news = [] := List.eq_nil_of_length_eq_zero (by have := hsrc.newsLen; simpa using this)
      rcases hsrc.kind with ⟨e', hkd⟩ | hkd <;> simp [Builtin.append_, run_underlying ht, run_underlying hkd, Go.sizeOf, typeInfo, hi, hsrc.len, hsrc.cells]
    · obtain ⟨hB0, hk⟩ := hk (by omega)
      have elder : ∀ (Post : Value → World → Prop), ((0 + n) * i.bytes ≤ 140737488355328 → ∃ v' w', (Builtin.append_ #[t, tx] ty #[.slice none 0 0, x]).run P w = .ok v' w' ∧ Post v' w') → ∃ v' w', (Builtin.append_ #[t, tx] ty #[.slice none 0 0, x]).run P w = .ok v' w' ∧ Post v' w' := fun _ hh => hh (by simpa [roomBytes] using hB0)
      rcases elder
        (fun v' w' => ∃ b cap rest, v' = .slice (some ⟨b, 0, none⟩) n cap ∧ h b = none ∧ n ≤ cap ∧ news.length + rest.length = cap * i.size ∧ Holds (ins h b (.cells (news ++ rest).toArray e)) w' ∧ Framed h (ins h b (.cells (news ++ rest).toArray e)) w w')
        (fun hB => by
          have hnb : n ≤ n * i.bytes := Nat.le_mul_of_pos_right _ hb0
          simp only [Nat.zero_add] at hB
          have hr := run_append_grow_src (P := P) w t tx ty e i z ht hi hz none 0 0 [] hold x n news hsrc (by omega) (by omega) (by rw [nextslicecap_zero (by omega)]; simp only [Nat.zero_add]; omega)
          refine ⟨_, _, hr, w.heap.size, grownCap w (0 + n) 0 e, (Builtin.zeroCells z.cells (grownCap w (0 + n) 0 e - (0 + n))).toList, by simp, hw.none (Nat.le_refl _), by simpa using grownCap_ge w (0 + n) 0 e, ?_, ?_, ?_⟩
          · have hge := grownCap_ge w (0 + n) 0 e
            rw [mul_rep _ _ _ hzs, hsrc.newsLen]
            rw [← Nat.add_mul]; congr 1; omega
          · exact Holds.push hw (heap_da w e (by simp))
          · exact Framed.push (heap_da w e (by simp)) rfl rfl rfl) with ⟨v', w', hr, b, cap, rest, rfl, hb, hnc, hlen2, hh, hf⟩
      left
      exact ⟨_, w', hr, _, hh, hf, hk b cap rest hb hnc hlen2⟩
  · -- onto a row of one's own
    have hgw := hw g _ hg
    have hlsz : len * i.size ≤ c.size := by rw [hcs]; exact Nat.mul_le_mul_right _ hle
    have hold : (Builtin.firstCells i.size len (.slice (some ⟨g, 0, none⟩) len cap)).run P w.drew = .ok (c.toList.take (len * i.size)).toArray w.drew :=
      run_firstCells_some w.drew i.size len ⟨g, 0, none⟩ len cap _ (by simp; omega) (fun j u hu => by
        rw [add_lit]
        have : w.drew.heap[g]? = some (.cells c e (0, 0)) := hgw
        rw [cell_of this, ← Array.getElem?_toList]
        rw [List.getElem?_take] at hu
        split at hu
        · simpa using hu
        · cases hu)
    have hsh : 0 < n → (Builtin.mayShare i.size len n (some ⟨g, 0, none⟩) x).runT P w #[] = (.ok false w, #[]) := hshare len (some ⟨g, 0, none⟩) (fun a ha => by
      cases ha
      refine ⟨by simp [Room.holdsV, World.shape?, hgw, hlsz], ?_, fun b off l c' hx => hap b off l c' hx⟩
      rw [add_lit]; unfold World.frozen?; simp [hgw])
    have elder : ∀ (Post : Value → World → Prop), ((len + n) * i.bytes ≤ 140737488355328 → ∃ v' w', (Builtin.append_ #[t, tx] ty #[.slice (some ⟨g, 0, none⟩) len cap, x]).run P w = .ok v' w' ∧ Post v' w') → ∃ v' w', (Builtin.append_ #[t, tx] ty #[.slice (some ⟨g, 0, none⟩) len cap, x]).run P w = .ok v' w' ∧ Post v' w' := fun _ hh => hh (by simpa [roomBytes] using hcap)
    rcases elder
        (fun v' w' => ∃ b cap' rest, v' = .slice (some ⟨b, 0, none⟩) (len + n) cap' ∧ (b = g ∨ h b = none) ∧ len + n ≤ cap' ∧ (c.toList.take (len * i.size) ++ news).length + rest.length = cap' * i.size ∧
          Holds (ins (dropB h g) b (.cells (c.toList.take (len * i.size) ++ news ++ rest).toArray e)) w' ∧ Framed h (ins (dropB h g) b (.cells (c.toList.take (len * i.size) ++ news ++ rest).toArray e)) w w')
        (fun hB => by
          have drop : ∀ (w' : World) (b : Nat) (o : Obj), Holds (ins h b o) w' → Holds (ins (dropB h g) b o) w' := fun w' b o hh x p hp => by
            refine hh x p ?_
            by_cases hx : x = b
            · subst hx; rw [ins_eq] at hp ⊢; exact hp
            · rw [ins_ne _ _ hx] at hp ⊢
              unfold dropB at hp
              cases hq : Nat.beq x g <;> rw [hq] at hp
              · exact hp
              · cases hp
          have fdrop : ∀ (w' : World) (b : Nat) (o : Obj), Framed h (ins h b o) w w' → Framed h (ins (dropB h g) b o) w w' := fun w' b o hf =>
            ⟨hf.os, hf.tape, hf.output, hf.size, fun x hx hn => by
              obtain ⟨a1, a2⟩ := hf.keep x hx hn
              refine ⟨?_, a2⟩
              by_cases hxb : x = b
              · subst hxb; rw [ins_eq] at a1; cases a1
              · rw [ins_ne _ _ hxb]
                unfold dropB
                cases Nat.beq x g
                · exact hn
                · rfl⟩
          by_cases hroom : len + n ≤ cap
          · have hfit : len * i.size + news.length ≤ c.size := by rw [hsrc.newsLen, hcs, ← Nat.add_mul]; exact Nat.mul_le_mul_right _ hroom
            have hr := run_append_room_src (P := P) w t tx ty e i ht hi g 0 len cap x n news hsrc hroom (fun j hj => by
                rw [show 0 + len * i.size + j = (0 + len * i.size) + j from rfl, cell_of hgw]; simp; omega) (fun j hj => by unfold World.frozen?; simp [hgw])
            simp only [Nat.zero_add] at hr
            obtain ⟨s1, s2, s3, s4, s5, s6⟩ := setCells_spec g news (len * i.size) w c hgw
            rw [wr_behind hfit] at s1
            refine ⟨_, _, hr, g, cap, c.toList.drop (len * i.size + news.length), rfl, .inl rfl, hroom, ?_, drop _ _ _ (hw.set s1 s2), fdrop _ _ _ (Framed.set hg s2 s3 s4 s5 s6)⟩
            simp; omega
          · have hnb : (len + n) ≤ (len + n) * i.bytes := Nat.le_mul_of_pos_right _ hb0
            have hfit : Builtin.nextslicecap (len + n) cap * i.bytes ≤ 281474976710656 := growslice_fits (by omega) hB
            have hr := run_append_grow_src (P := P) w t tx ty e i z ht hi hz (some ⟨g, 0, none⟩) len cap _ hold x n news hsrc (by omega) (by omega) hfit
            have hge := grownCap_ge w (len + n) cap e
            refine ⟨_, _, hr, w.heap.size, grownCap w (len + n) cap e, (Builtin.zeroCells z.cells (grownCap w (len + n) cap e - (len + n))).toList, rfl, .inr (hw.none (Nat.le_refl _)), hge, ?_, drop _ _ _ (Holds.push hw ?_), fdrop _ _ _ (Framed.push ?_ rfl rfl rfl)⟩
            · rw [mul_rep _ _ _ hzs, List.length_append, hsrc.newsLen]
              have : (c.toList.take (len * i.size)).length = len * i.size := by simp; omega
              rw [this, ← Nat.add_mul, ← Nat.add_mul]; congr 1; omega
            · exact heap_da w e (by simp)
            · exact heap_da w e (by simp)) with ⟨v', w', hr, b, cap', rest, rfl, hb, hnc, hlen2, hh, hf⟩
    left
    exact ⟨_, w', hr, _, hh, hf, hk b cap' rest hb hnc hlen2⟩

theorem makeS_sound {t e : TypeId} {i : TypeInfo} {z : Value} (ht : P.underlying t = some (.slice e)) (hi : P.info? e = some i) (hz : i.zero = some z) {l c : Value} {K : Value → PH → Prop}
    (hv : vMakeS e i.size i.bytes z.cells l c h K) {w : World} (hw : Holds h w) :
    (∃ v' w', (Instr.makeSlice t l c).run P w = .ok v' w' ∧ ∃ h', Holds h' w' ∧ Framed h h' w w' ∧ K v' h') ∨
    False := by
  obtain ⟨k, k', n, m, rfl, rfl, h0, hnm, hb, h62, hk⟩ := hv
  have wl : IntKind.i64.wrap n = n := by rw [IntKind.wrap_i64]; omega
  have wc : IntKind.i64.wrap m = m := by rw [IntKind.wrap_i64]; omega
  have n1 : ¬ m < 0 := by omega
  have hb' : (i.bytes : Int) * m ≤ 281474976710656 := by simpa using hb
  have n2 : ¬ (281474976710656 < (i.bytes : Int) * m) := by omega
  have n3 : ¬ n < 0 := by omega
  have n4 : ¬ m < n := by omega
  have hrun : (Instr.makeSlice t (.int k n) (.int k' m)).run P w = .ok (.slice (some ⟨w.heap.size, 0, none⟩) n.toNat m.toNat) (w.alloc (.cells (rep z.cells (m.toNat * i.size)) e)) := by
    by_cases hn0 : m.toNat * i.size = 0
    · by_cases hbig : m.toNat * i.bytes > roomBytes <;>
        simp [Instr.makeSlice, run_underlying ht, typeInfo, hi, asInt, asIntOf, wl, wc, n1, n2, n3, n4, Go.sizeOf, askRoom, hbig, mark, hn0, newRow, newObj, rep, Sem.run, range0]
    · by_cases hbig : m.toNat * i.bytes > roomBytes <;>
        simp [Instr.makeSlice, run_underlying ht, typeInfo, hi, asInt, asIntOf, wl, wc, n1, n2, n3, n4, Go.sizeOf, askRoom, hbig, mark, hn0, newRow, newObj, rep, Sem.run, zeroValue, hz]
  left
  refine ⟨_, _, hrun, _, Holds.push hw ?_, Framed.push ?_ rfl rfl rfl, hk w.heap.size (hw.none (Nat.le_refl _))⟩
  · rfl
  · rfl

theorem callV_sound {g : FuncId} {args : Array Value} {K : Value → PH → Prop} {Kp : List PanicEntry → PH → Prop} (hk : ACalls P g args h (AEnd.elim K Kp)) {w : World} (hw : Holds h w) :
    Calls P g args w fun e w'' => match e with
      | .returned v => ∃ h', Holds h' w'' ∧ Framed h h' w w'' ∧ K v h'
      | .panicked c => ∃ h', Holds h' w'' ∧ Framed h h' w w'' ∧ Kp c h'
      | .outgrown => False :=
  (hk.2 w hw).mono fun e w'' he => by
    cases e <;> simp only at he ⊢ <;> exact he

theorem denL_sound {o : Oper} {K : Value → PH → Prop} {Kp : List PanicEntry → PH → Prop} (hd : denL P o ρ h K Kp) : OpL P o ρ h K Kp := by
  obtain ⟨dst, op, type, pos, after, guard⟩ := o
  intro w hw
  cases op <;> simp only [denL] at hd
  case mapUpdate t m x v =>
    left
    obtain ⟨w', h', e, a, b, c⟩ := hd w hw
    have hr : (execOp (evalE ρ) ⟨dst, .mapUpdate t m x v, type, pos, after, guard⟩).run P w = .ok .skip w' := by
      show (do (Instr.mapUpdate t (evalE ρ m) (evalE ρ x) (evalE ρ v)); pure Next.skip : Sem Next).run P w = _
      rw [Sem.run_bind, e]; rfl
    rw [hr]
    exact ⟨h', a, b, c⟩
  case store t a x =>
    cases hs : sizeOf' P t with
    | none => rw [hs] at hd; exact hd.elim
    | some n =>
      rw [hs] at hd
      obtain ⟨b, off, c, e, fr, ha, hb, hn, hl, ho, hf, hk⟩ := hd
      left
      have hbw := hw b _ hb
      have hlen : (evalE ρ x).cells.toList.length = n := by simpa using hn
      have hst := run_storeCellsAt (P := P) (vs := (evalE ρ x).cells.toList) hbw (by rw [hlen]; exact hl) ho (by rw [hlen]; exact hf)
      obtain ⟨s1, s2, s3, s4, s5, s6⟩ := setCells_spec b (evalE ρ x).cells.toList off w c hbw
      have hrun : (execOp (evalE ρ) ⟨dst, .store t a x, type, pos, after, guard⟩).run P w = .ok .skip (w.setCells b off (evalE ρ x).cells.toList) := by
        simp only [execOp, Instr.storeAt, ha, Instr.sureAddr, storeVar, Sem.run_bind, Sem.run_pure, Result.andThen, sizeOf'_run hs, hn, ne_eq, not_true_eq_false, if_false, hst]
      rw [hrun]
      exact ⟨_, hw.set s1 s2, Framed.set hb s2 s3 s4 s5 s6, hk⟩
  case buildSlice t len ps =>
    cases hu : P.underlying t with
    | none => rw [hu] at hd; exact hd.elim
    | some d =>
      rw [hu] at hd
      cases d
      case slice e =>
        simp only at hd
        cases hs : sizeOf' P e with
        | none => rw [hs] at hd; exact hd.elim
        | some n =>
          cases hz : zeroOf P e with
          | none => rw [hs, hz] at hd; exact hd.elim
          | some z =>
            rw [hs, hz] at hd
            obtain ⟨hmax, cs, hf, hk⟩ := hd
            left
            obtain ⟨zv, hzr, hzc⟩ := zeroOf_run hz w
            have hparts : ∀ (place : Nat → Option (Nat × Nat)) (zz : Array Value), Instr.fill place zz ((ps.map fun (i, x) => (i, evalE ρ x)).toList) = Instr.fill place zz (partsOf ρ ps) := fun place zz => by
              unfold partsOf; simp
            have hmax' : ¬ (len * n > 2 ^ 24) := by omega
            have hrun : (Instr.buildSlice t len (ps.map fun (i, x) => (i, evalE ρ x))).run P w = .ok (.slice (some ⟨w.heap.size, 0, none⟩) len len) (w.alloc (.cells cs e)) := by
              have hf' : Instr.fill (fun i => some (i * n, n)) (rep z (len * n)) ((ps.map fun (i, x) => (i, evalE ρ x)).toList) = some cs := by rw [hparts, hf]
              unfold rep at hf'
              by_cases h0 : len * n = 0
              · rw [h0, range0] at hf'
                have hmax0 : ¬ (0 > 2 ^ 24) := by omega
                simp [Instr.buildSlice, run_underlying hu, Result.andThen, sizeOf'_run hs, h0, range0]
                simp only [Array.toList_map] at hf'
                rw [hf']
                simp [newRow, newObj, Sem.run]
              · simp only [Instr.buildSlice, Sem.run_bind, run_underlying hu, Result.andThen, sizeOf'_run hs, hmax', if_false, h0, hzr, Sem.run_pure, hzc, hf']
                simp [newRow, newObj, Sem.run]
            have hx : (execOp (evalE ρ) ⟨dst, .buildSlice t len ps, type, pos, after, guard⟩).run P w = .ok (.value (.slice (some ⟨w.heap.size, 0, none⟩) len len)) (w.alloc (.cells cs e)) := run_vW _ hrun
            rw [hx]
            refine ⟨_, Holds.push hw ?_, Framed.push ?_ rfl rfl rfl, hk w.heap.size (hw.none (Nat.le_refl _))⟩
            · rfl
            · rfl
      all_goals exact hd.elim
  case makeMap t r =>
    cases r with
    | some r => exact hd w hw
    | none =>
      left
      have hr : (Instr.makeMap t none).run P w = .ok (.map (some w.heap.size)) { w with heap := w.heap.push (.map #[] 0) } := by
        simp [Instr.makeMap, newObj, Sem.run]
      have hrun : (execOp (evalE ρ) ⟨dst, .makeMap t none, type, pos, after, guard⟩).run P w = .ok (.value (.map (some w.heap.size))) { w with heap := w.heap.push (.map #[] 0) } := run_vW _ hr
      rw [hrun]
      exact ⟨_, Holds.push hw rfl, Framed.push rfl rfl rfl rfl, hd w.heap.size (hw.none (Nat.le_refl _))⟩
  case insert t m k v =>
    cases hu : P.underlying t with
    | none => rw [hu] at hd; exact hd.elim
    | some d =>
      rw [hu] at hd
      cases d
      case map kt e =>
        simp only at hd
        cases hkt : P.underlying kt with
        | none => rw [hkt] at hd; exact hd.elim
        | some dk =>
          rw [hkt] at hd
          obtain ⟨b, es, clock, hm, hb, hkd, hf, hk⟩ := hd
          left
          have hbw := hw b _ hb
          have hlt := hw.lt hb
          have hg : (getObj b).run P w = .ok (.map es clock) w := by simp [getObj, Sem.run, hbw]
          have hck : ∀ ee nn, (Instr.checkKey ee (nn + 1) kt (evalE ρ k)).run P w = .ok () w := fun ee nn => by
            rw [Instr.checkKey, Sem.run_bind, run_underlying hkt, Result.andThen_ok]
            cases dk <;> first | rfl | cases hkd
          have hfk : (Instr.findKey kt (evalE ρ k) es.toList).run P w = .ok none w := by
            rw [Instr.findKey, Sem.run_bind, run_underlying hkt, Result.andThen_ok, hf]; rfl
          have hr : (Instr.mapUpdate t (evalE ρ m) (evalE ρ k) (evalE ρ v)).run P w = .ok () { w with heap := w.heap.setIfInBounds b (.map (es.push { key := evalE ρ k, val := evalE ρ v, born := clock }) (clock + 1)) } := by
            simp only [Instr.mapUpdate, Sem.run_bind, run_underlying hu, Result.andThen_ok, hm, hg]
            rw [show (10000 : Nat) = 9999 + 1 from rfl, hck, Result.andThen_ok, hfk, Result.andThen_ok]
            simp [setObj, Sem.run, hbw]
          have hrun : (execOp (evalE ρ) ⟨dst, .insert t m k v, type, pos, after, guard⟩).run P w = .ok .skip { w with heap := w.heap.setIfInBounds b (.map (es.push { key := evalE ρ k, val := evalE ρ v, born := clock }) (clock + 1)) } := by
            show (do (Instr.mapUpdate t (evalE ρ m) (evalE ρ k) (evalE ρ v)); pure Next.skip : Sem Next).run P w = _
            rw [Sem.run_bind, hr]; rfl
          rw [hrun]
          have h2 : ∀ x, x ≠ b → ({ w with heap := w.heap.setIfInBounds b (.map (es.push { key := evalE ρ k, val := evalE ρ v, born := clock }) (clock + 1)) } : World).heap[x]? = w.heap[x]? := fun x hx => by
            show (w.heap.setIfInBounds b _)[x]? = _
            rw [Array.getElem?_setIfInBounds_ne (Ne.symm hx)]
          refine ⟨_, hw.set (o := .map (es.push { key := evalE ρ k, val := evalE ρ v, born := clock }) (clock + 1)) ?_ h2, Framed.set hb h2 (by simp) rfl rfl rfl, hk⟩
          show (w.heap.setIfInBounds b _)[b]? = _
          rw [Array.getElem?_setIfInBounds_self_of_lt hlt]
      all_goals exact hd.elim
  case binOp op t x y yt =>
    obtain ⟨k, a, b, f, hx, hy, hf, h1, h2⟩ := hd
    left
    have hrun : ∃ r n, (execOp (evalE ρ) ⟨dst, .binOp op t x y yt, type, pos, after, guard⟩).run P w = .ok (.value (.float k r)) { w with drawn := n } ∧ K (.float k r) h := by
      cases hfr : f k a b with
      | some r =>
        refine ⟨r, w.drawn, ?_, h1 r hfr⟩
        have hs : (do eqGuard op t x y (evalE ρ x) (evalE ρ y); binOp op t (evalE ρ x) (evalE ρ y) : Sem Value).run P w = .ok (.float k r) w := by
          rw [hx, hy]
          cases op <;> simp only [arithF, Option.some.injEq, reduceCtorEq] at hf <;> subst hf <;> simp only at hfr <;> simp [eqGuard, binOp, Op.floatArith, hfr]
        exact run_v _ hs
      | none =>
        have hs : (do eqGuard op t x y (evalE ρ x) (evalE ρ y); binOp op t (evalE ρ x) (evalE ρ y) : Sem Value).run P w = (do pure (.float k (← choose (.nanBits k a b))) : Sem Value).run P w := by
          rw [hx, hy]
          cases op <;> simp only [arithF, Option.some.injEq, reduceCtorEq] at hf <;> subst hf <;> simp only at hfr <;> simp [eqGuard, binOp, Op.floatArith, hfr]
        have hch : ∃ r n, (do pure (.float k (← choose (.nanBits k a b))) : Sem Value).run P w = .ok (.float k ((Question.nanBits k a b).cut r)) { w with drawn := n } :=
          ⟨w.tape w.drawn (.nanBits k a b), w.drawn + 1, by
            have hq : (Question.nanBits k a b).forced = false := rfl
            simp [choose, Sem.run, hq]⟩
        obtain ⟨r, n, hr⟩ := hch
        refine ⟨_, n, run_vW _ (hs.trans hr), h2 hfr r⟩
    obtain ⟨r, n, hr, hk⟩ := hrun
    rw [hr]
    exact ⟨h, hw, ⟨rfl, rfl, rfl, Nat.le_refl _, fun b _ hb => ⟨hb, rfl⟩⟩, hk⟩
  case makeSlice t l c =>
    cases hu : P.underlying t with
    | none => rw [hu] at hd; exact hd.elim
    | some d =>
      rw [hu] at hd
      cases d
      case slice e =>
        simp only at hd
        cases hi : P.info? e with
        | none => rw [hi] at hd; exact hd.elim
        | some i =>
          rw [hi] at hd
          simp only at hd
          cases hz : i.zero with
          | none => rw [hz] at hd; exact hd.elim
          | some z =>
            rw [hz] at hd
            rcases makeS_sound hu hi hz hd hw with ⟨v', w', hr, hh⟩ | ⟨h1, h2⟩
            · left
              have hx : (execOp (evalE ρ) ⟨dst, .makeSlice t l c, type, pos, after, guard⟩).run P w = .ok (.value v') w' := run_vW _ hr
              rw [hx]
              exact hh
      all_goals exact hd.elim
  case panic x =>
    obtain ⟨t, v, hx, hk⟩ := hd
    left
    have hrun : (execOp (evalE ρ) ⟨dst, .panic x, type, pos, after, guard⟩).run P w = .halt (.panic (.iface t v)) w := by
      simp only [execOp, hx, Instr.panic, goPanic, Sem.run_bind]
      rfl
    rw [hrun]
    exact ⟨h, hw, Framed.refl h w, hk⟩
  case call c =>
    obtain ⟨callee, args, argTypes⟩ := c
    cases callee with
    | invoke r m => exact hd w hw
    | value f =>
      have hval : ∀ x : Operand, vCallV P (evalE ρ x) (argsOf ρ args) h K Kp → OpL P ⟨dst, .call ⟨.value x, args, argTypes⟩, type, pos, after, guard⟩ ρ h K Kp := by
        intro x hd w hw
        obtain ⟨g, first, cap, hx, hk⟩ := hd
        left
        have hrun : (execOp (evalE ρ) ⟨dst, .call ⟨.value x, args, argTypes⟩, type, pos, after, guard⟩).run P w = .ok (.enter g (first ++ argsOf ρ args ++ cap)) w := by
          have := run_callFunc hk.1 (first ++ argsOf ρ args ++ cap) w
          simp only [execOp, resolve, hx, Deferred.ofValue, invoke, Sem.run_bind, Sem.run_pure, Result.andThen, argsOf_eq]
          exact this
        rw [hrun]
        exact ⟨rfl, callV_sound hk hw⟩
      cases f with
      | func f =>
        simp only at hd
        cases hx : extOf P f with
        | false =>
          rw [hx] at hd
          refine hval (.func f) ⟨f, #[], #[], rfl, ?_⟩ w hw
          simpa [vCall] using hd
        | true =>
          rw [hx] at hd
          left
          obtain ⟨v, n, hr, hk⟩ := hd w hw
          have hrun : (execOp (evalE ρ) ⟨dst, .call ⟨.value (.func f), args, argTypes⟩, type, pos, after, guard⟩).run P w = .ok (.value v) { w with drawn := n } := by
            simp only [execOp, resolve, Deferred.ofValue, evalE, invoke, Sem.run_bind, Sem.run_pure, Result.andThen, argsOf_eq]
            simpa using hr
          rw [hrun]
          exact ⟨h, hw, ⟨rfl, rfl, rfl, Nat.le_refl _, fun b _ hb => ⟨hb, rfl⟩⟩, hk⟩
      | tmp t => exact hval _ hd w hw
      | const v => exact hval _ hd w hw
      | global g => exact hval _ hd w hw
    | builtin b =>
      cases b
      case clear =>
        obtain ⟨al⟩ := args
        obtain ⟨tl⟩ := argTypes
        simp only at hd
        split at hd
        · rename_i _ _ x t
          cases hu : P.underlying t with
          | none => rw [hu] at hd; exact hd w hw
          | some d =>
            rw [hu] at hd
            cases d
            case slice e =>
              simp only at hd
              cases hz : zeroOf P e with
              | none => rw [hz] at hd; exact hd.elim
              | some z =>
                rw [hz] at hd
                left
                obtain ⟨zv, hzr, hzc⟩ := zeroOf_run hz w
                have heq : execOp (evalE ρ) ⟨dst, .call ⟨.builtin .clear, ⟨[x]⟩, ⟨[t]⟩⟩, type, pos, after, guard⟩ = (Builtin.clear_ #[t] type #[evalE ρ x]).bind (fun v => Sem.pure (Next.value v)) := by
                  unfold execOp
                  simp only [resolve, invoke, builtin, List.map_toArray, List.map_cons, List.map_nil]
                  rfl
                rcases hd with ⟨p, cap, hx, hk⟩ | ⟨b, off, n, cap, c, e', fr, hx, h0, hb, hl, hf, ho, hk⟩
                · have hr : (Builtin.clear_ #[t] type #[evalE ρ x]).run P w = .ok (.tuple #[]) w := by
                    rw [hx]
                    cases p <;> simp [Builtin.clear_, run_underlying hu]
                  rw [heq]
                  rw [show (Sem.run P ((Builtin.clear_ #[t] type #[evalE ρ x]).bind (fun v => Sem.pure (Next.value v))) w) = .ok (.value (.tuple #[])) w from run_vW _ hr]
                  exact ⟨h, hw, Framed.refl _ _, hk⟩
                · have hbw := hw b _ hb
                  have hzz : (Builtin.zeroCells zv.cells n) = rep z (n * z.size) := by rw [hzc]; rfl
                  have hlen : (rep z (n * z.size)).toList.length = n * z.size := by simp [rep]
                  have hone : (rep z (n * z.size)).toList.all Value.oneCell' = true := by
                    rw [List.all_eq_true]
                    intro v hv
                    simp only [rep, Array.toList_map, List.mem_map] at hv
                    obtain ⟨i, hi, rfl⟩ := hv
                    have hi' : i < n * z.size := by simpa using hi
                    have hzp : 0 < z.size := by
                      rcases Nat.eq_zero_or_pos z.size with h | h
                      · rw [h] at hi'; omega
                      · exact h
                    have := Nat.mod_lt i hzp
                    rw [getElem!_pos z (i % z.size) this]
                    exact ho _ (by simp)
                  have hst := run_storeCellsAt (P := P) (vs := (rep z (n * z.size)).toList) hbw (by rw [hlen]; exact hl) hone (by rw [hlen]; exact hf)
                  obtain ⟨s1, s2, s3, s4, s5, s6⟩ := setCells_spec b (rep z (n * z.size)).toList off w c hbw
                  have hr : (Builtin.clear_ #[t] type #[evalE ρ x]).run P w = .ok (.tuple #[]) (w.setCells b off (rep z (n * z.size)).toList) := by
                    rw [hx]
                    obtain ⟨n', rfl⟩ : ∃ n', n = n' + 1 := ⟨n - 1, by omega⟩
                    simp only [Builtin.clear_]
                    simp [run_underlying hu, hzr, hzz, hst, Result.andThen]
                  rw [heq]
                  rw [show (Sem.run P ((Builtin.clear_ #[t] type #[evalE ρ x]).bind (fun v => Sem.pure (Next.value v))) w) = .ok (.value (.tuple #[])) _ from run_vW _ hr]
                  exact ⟨_, hw.set s1 s2, Framed.set hb s2 s3 s4 s5 s6, hk⟩
            all_goals exact hd w hw
        · exact hd.elim
      case append =>
        obtain ⟨al⟩ := args
        obtain ⟨tl⟩ := argTypes
        simp only at hd
        split at hd
        · rename_i _ _ s x t tx
          cases hu : P.underlying t with
          | none => rw [hu] at hd; exact hd.elim
          | some d =>
            rw [hu] at hd
            cases d
            case slice e =>
              simp only at hd
              cases hi : P.info? e with
              | none => rw [hi] at hd; exact hd.elim
              | some i =>
                rw [hi] at hd
                simp only at hd
                cases hz : i.zero with
                | none => rw [hz] at hd; exact hd.elim
                | some z =>
                  rw [hz] at hd
                  obtain ⟨hs0, hb0, hzs, hd⟩ := hd
                  have fin : (∃ v' w', (Builtin.append_ #[t, tx] type #[evalE ρ s, evalE ρ x]).run P w = .ok v' w' ∧ ∃ h', Holds h' w' ∧ Framed h h' w w' ∧ K v' h') ∨
                      False := by
                    cases htx : P.underlying tx with
                    | none => rw [htx] at hd; exact hd.elim
                    | some d2 =>
                      rw [htx] at hd
                      cases d2
                      case string => exact append_sound hu hi hz htx (fun k h => by cases h) hs0 hb0 hzs (.inl ⟨rfl, rfl⟩) hd hw
                      case slice e2 => exact append_sound hu hi hz htx (fun k h => by cases h) hs0 hb0 hzs (.inr ⟨rfl, e2, rfl⟩) hd hw
                      all_goals exact hd.elim
                  have heq : execOp (evalE ρ) ⟨dst, .call ⟨.builtin .append, ⟨[s, x]⟩, ⟨[t, tx]⟩⟩, type, pos, after, guard⟩ = (Builtin.append_ #[t, tx] type #[evalE ρ s, evalE ρ x]).bind (fun v => Sem.pure (Next.value v)) := by
                    unfold execOp
                    simp only [resolve, invoke, builtin, List.map_toArray, List.map_cons, List.map_nil]
                    rfl
                  rcases fin with ⟨v', w', hr, hh⟩ | ⟨h1, h2⟩
                  · left
                    have hx : (execOp (evalE ρ) ⟨dst, .call ⟨.builtin .append, ⟨[s, x]⟩, ⟨[t, tx]⟩⟩, type, pos, after, guard⟩).run P w = .ok (.value v') w' := by
                      rw [heq]; exact run_vW _ hr
                    rw [hx]
                    exact hh
            all_goals exact hd.elim
        · exact hd.elim
      all_goals first | exact hd.elim | exact hd w hw
  all_goals first | exact hd.elim | exact hd w hw
end
section
variable {P : Program} {qf : FuncId → Bool} {ρ : Env} {h : PH}
theorem denA_sound {o : Oper} {K : Value → PH → Prop} (hc : clsOf P qf o = .alloc) (hd : denA P o ρ h K) : ∃ obj mk, OpA P o ρ obj mk ∧ ∀ b, h b = none → K (mk b) (ins h b obj) := by
  obtain ⟨dst, op, type, pos, after, guard⟩ := o
  cases op <;> simp only [denA, clsOf] at hd hc
  case alloc e =>
    cases hz : zeroOf P e with
    | none => rw [hz] at hd; exact hd.elim
    | some z =>
      rw [hz] at hd
      refine ⟨.cells z e, fun b => .pointer (some ⟨b, 0, none⟩), fun w => run_vW _ ?_, hd⟩
      obtain ⟨zv, hzr, hzc⟩ := zeroOf_run hz w
      simp [Instr.alloc, hzr, newVar, newRow, newObj, Sem.run, hzc]
  case box e x =>
    refine ⟨.cells (evalE ρ x).cells e, fun b => .pointer (some ⟨b, 0, none⟩), fun w => run_vW _ ?_, hd⟩
    simp [Instr.box, newVar, newRow, newObj, Sem.run]
  case makeMap t r =>
    cases r with
    | some r => cases hc
    | none => exact ⟨.map #[] 0, fun b => .map (some b), fun w => run_vW _ (by simp [Instr.makeMap, newObj, Sem.run]), hd⟩
  case buildSlice t len ps =>
    cases hu : P.underlying t with
    | none => rw [hu] at hd; exact hd.elim
    | some d =>
      rw [hu] at hd
      cases d
      case slice e =>
        simp only at hd
        cases hs : sizeOf' P e with
        | none => rw [hs] at hd; exact hd.elim
        | some n =>
          cases hz : zeroOf P e with
          | none => rw [hs, hz] at hd; exact hd.elim
          | some z =>
            rw [hs, hz] at hd
            obtain ⟨hmax, cs, hf, hk⟩ := hd
            refine ⟨.cells cs e, fun b => .slice (some ⟨b, 0, none⟩) len len, fun w => ?_, hk⟩
            obtain ⟨zv, hzr, hzc⟩ := zeroOf_run hz w
            have hparts : ∀ (place : Nat → Option (Nat × Nat)) (zz : Array Value), Instr.fill place zz ((ps.map fun (i, x) => (i, evalE ρ x)).toList) = Instr.fill place zz (partsOf ρ ps) := fun place zz => by
              unfold partsOf; simp
            have hmax' : ¬ (len * n > 2 ^ 24) := by omega
            have hrun : (Instr.buildSlice t len (ps.map fun (i, x) => (i, evalE ρ x))).run P w = .ok (.slice (some ⟨w.heap.size, 0, none⟩) len len) (w.alloc (.cells cs e)) := by
              have hf' : Instr.fill (fun i => some (i * n, n)) (rep z (len * n)) ((ps.map fun (i, x) => (i, evalE ρ x)).toList) = some cs := by rw [hparts, hf]
              unfold rep at hf'
              by_cases h0 : len * n = 0
              · rw [h0, range0] at hf'
                have hmax0 : ¬ (0 > 2 ^ 24) := by omega
                simp [Instr.buildSlice, run_underlying hu, Result.andThen, sizeOf'_run hs, h0, range0]
                simp only [Array.toList_map] at hf'
                rw [hf']
                simp [newRow, newObj, Sem.run]
              · simp only [Instr.buildSlice, Sem.run_bind, run_underlying hu, Result.andThen, sizeOf'_run hs, hmax', if_false, h0, hzr, Sem.run_pure, hzc, hf']
                simp [newRow, newObj, Sem.run]
            exact run_vW _ hrun
      all_goals exact hd.elim
  all_goals (first | exact hd.elim | cases hc)

/-- Such an operation can always be carried out. -/
theorem alloc_total {o : Oper} (hc : clsOf P qf o = .alloc) (hz : ∀ e, o.op = .alloc e → (zeroOf P e).isSome = true) (hb : ∀ t n ps, o.op ≠ .buildSlice t n ps) (ρ : Env) : ∃ obj mk, OpA P o ρ obj mk := by
  have : denA P o ρ (fun _ => none) (fun _ _ => True) := by
    obtain ⟨dst, op, type, pos, after, guard⟩ := o
    cases op <;> simp only [denA, clsOf] at hc ⊢
    case alloc e =>
      have := hz e rfl
      cases h : zeroOf P e with
      | none => rw [h] at this; cases this
      | some z => exact fun _ _ => trivial
    case box e x => exact fun _ _ => trivial
    case makeMap t r => cases r with
      | some r => cases hc
      | none => exact fun _ _ => trivial
    case buildSlice t n ps => exact absurd rfl (hb t n ps)
    case binOp op t x y yt => split at hc <;> (try split at hc) <;> cases hc
    case convert src dst' x => split at hc <;> cases hc
    case call c =>
      obtain ⟨callee, args, argTypes⟩ := c
      cases callee with
      | value f => cases f with
        | func f => cases hq : qf f <;> simp only [hq] at hc <;> cases hc
        | _ => cases hc
      | invoke r m => cases hc
      | builtin b => cases b <;> first | cases hc | (simp only at hc; split at hc <;> (try split at hc) <;> cases hc)
    all_goals cases hc
  obtain ⟨obj, mk, h, _⟩ := denA_sound hc this
  exact ⟨obj, mk, h⟩
end
end Go.Pw
