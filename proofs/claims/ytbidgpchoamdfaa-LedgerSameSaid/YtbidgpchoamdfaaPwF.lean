/- The words of PwC tell the truth of the model's operations: stores, new rows, appends, calls, panics. -/
import Derived.Test.YtbidgpchoamdfaaPwE
set_option linter.unusedSimpArgs false
set_option linter.unusedVariables false
namespace Go.Pw
open Go
section
variable {P : Program} {ρ : Env} {h : PH} {qf : FuncId → Bool}

theorem heap_setCell {w : World} {b o : Nat} {v : Value} {c : Array Value} {e : TypeId} {fr : Nat × Nat} (hb : w.heap[b]? = some (.cells c e fr)) :
    (w.setCell ⟨b, o, none⟩ v).heap[b]? = some (.cells (c.setIfInBounds o v) e fr) := by
  simp [World.setCell, Array.getElem?_modify, hb]
theorem heap_setCell_ne {w : World} {b o x : Nat} {v : Value} (hx : x ≠ b) : (w.setCell ⟨b, o, none⟩ v).heap[x]? = w.heap[x]? := by
  simp [World.setCell, Array.getElem?_modify, Ne.symm hx]

theorem setCells_spec (b : Nat) {e : TypeId} {fr : Nat × Nat} : ∀ (vs : List Value) (o : Nat) (w : World) (c : Array Value), w.heap[b]? = some (.cells c e fr) →
    (w.setCells b o vs).heap[b]? = some (.cells (wr c o vs) e fr) ∧ (∀ x, x ≠ b → (w.setCells b o vs).heap[x]? = w.heap[x]?) ∧ (w.setCells b o vs).heap.size = w.heap.size ∧
    (w.setCells b o vs).os = w.os ∧ (w.setCells b o vs).tape = w.tape ∧ (w.setCells b o vs).output = w.output
  | [], o, w, c, hb => ⟨hb, fun _ _ => rfl, rfl, rfl, rfl, rfl⟩
  | v :: r, o, w, c, hb => by
    obtain ⟨h1, h2, h3, h4, h5, h6⟩ := setCells_spec b r (o + 1) (w.setCell ⟨b, o, none⟩ v) _ (heap_setCell (o := o) (v := v) hb)
    refine ⟨h1, fun x hx => (h2 x hx).trans (heap_setCell_ne hx), h3.trans ?_, h4, h5, h6⟩
    simp [World.setCell]

theorem wr_append : ∀ (a vs d : List Value), wr (a ++ vs.map (fun _ => undef) ++ d).toArray a.length vs = (a ++ vs ++ d).toArray
  | a, [], d => by simp [wr]
  | a, v :: vs, d => by
    have ih := wr_append (a ++ [v]) vs d
    simp only [List.map_cons, wr]
    have : ((a ++ undef :: List.map (fun _ => undef) vs ++ d).toArray).setIfInBounds a.length v = (a ++ [v] ++ vs.map (fun _ => undef) ++ d).toArray := by
      apply Array.ext'
      simp
    rw [this]
    simpa using ih

theorem wr_size : ∀ (vs : List Value) (c : Array Value) (o : Nat), (wr c o vs).size = c.size
  | [], _, _ => rfl
  | v :: vs, c, o => by rw [wr, wr_size vs]; simp
theorem wr_getElem : ∀ (vs : List Value) (c : Array Value) (o j : Nat), (wr c o vs)[j]? = if o ≤ j ∧ j < o + vs.length ∧ j < c.size then vs[j - o]? else c[j]?
  | [], c, o, j => by rw [if_neg (by simp; omega)]; rfl
  | v :: vs, c, o, j => by
    rw [wr, wr_getElem vs]
    simp only [Array.size_setIfInBounds, List.length_cons]
    by_cases h1 : o = j
    · subst h1
      rw [if_neg (by omega)]
      by_cases h2 : o < c.size
      · rw [if_pos ⟨by omega, by omega, h2⟩]; simp [h2]
      · rw [if_neg (by omega)]; simp [h2]
    · rw [Array.getElem?_setIfInBounds_ne h1]
      by_cases h2 : o + 1 ≤ j ∧ j < o + 1 + vs.length ∧ j < c.size
      · rw [if_pos h2, if_pos (by omega)]
        have : j - o = (j - (o + 1)) + 1 := by omega
        rw [this, List.getElem?_cons_succ]
      · rw [if_neg h2, if_neg (by omega)]

/-- Storing behind the first k cells. -/
theorem wr_behind {c : Array Value} {k : Nat} {vs : List Value} (hk : k + vs.length ≤ c.size) : wr c k vs = (c.toList.take k ++ vs ++ c.toList.drop (k + vs.length)).toArray := by
  apply Array.ext_getElem?
  intro j
  rw [wr_getElem]
  simp only [List.getElem?_toArray]
  by_cases h1 : k ≤ j ∧ j < k + vs.length ∧ j < c.size
  · rw [if_pos h1, List.getElem?_append_left (by simp; omega), List.getElem?_append_right (by simp; omega)]
    congr 1
    simp; omega
  · rw [if_neg h1]
    by_cases h2 : j < k
    · rw [List.getElem?_append_left (by simp; omega), List.getElem?_append_left (by simp; omega), List.getElem?_take, if_pos h2]; simp
    · have h3 : k + vs.length ≤ j := by
        rcases Nat.lt_or_ge j (k + vs.length) with h | h
        · exact absurd ⟨by omega, h, by omega⟩ h1
        · exact h
      rw [List.getElem?_append_right (by simp; omega), List.getElem?_drop]
      simp
      congr 1
      omega

theorem frozen_of {w : World} {b off n : Nat} {c : Array Value} {e : TypeId} {fr : Nat × Nat} (hb : w.heap[b]? = some (.cells c e fr)) (hf : frOK fr off n) (j : Nat) (hj : j < n) : w.frozen? ⟨b, off + j, none⟩ = false := by
  unfold World.frozen?
  rw [hb]
  obtain ⟨lo, hi⟩ := fr
  unfold frOK at hf
  simp at hf ⊢
  omega

theorem run_storeCellsAt {w : World} {b off : Nat} {c : Array Value} {e : TypeId} {fr : Nat × Nat} {vs : List Value} (hb : w.heap[b]? = some (.cells c e fr)) (hl : off + vs.length ≤ c.size) (ho : vs.all Value.oneCell' = true) (hf : frOK fr off vs.length) :
    (storeCells ⟨b, off, none⟩ vs).run P w = .ok () (w.setCells b off vs) := by
  have := run_storeCells_cells (P := P) b off vs 0 w (fun j hj => by
    rw [Nat.add_zero, cell_of hb]
    simp; omega) (fun j hj => by rw [Nat.add_zero]; exact frozen_of hb hf j hj) (fun v hv => List.all_eq_true.1 ho v hv)
  simpa using this

theorem Holds.set {w w' : World} {b : Nat} {o : Obj} (hw : Holds h w) (h1 : w'.heap[b]? = some o) (h2 : ∀ x, x ≠ b → w'.heap[x]? = w.heap[x]?) : Holds (ins h b o) w' := fun x p hp => by
  by_cases hx : x = b
  · subst hx; rw [ins_eq] at hp; injection hp with hp; subst hp; exact h1
  · rw [ins_ne _ _ hx] at hp; rw [h2 x hx]; exact hw x p hp

theorem Framed.set {w w' : World} {b : Nat} {o p : Obj} (hb : h b = some o) (h2 : ∀ x, x ≠ b → w'.heap[x]? = w.heap[x]?) (h3 : w'.heap.size = w.heap.size) (h4 : w'.os = w.os) (h5 : w'.tape = w.tape) (h6 : w'.output = w.output) : Framed h (ins h b p) w w' :=
  ⟨h4, h5, h6, Nat.le_of_eq h3.symm, fun x hx hn => by
    have hxb : x ≠ b := fun e => by subst e; rw [hb] at hn; cases hn
    exact ⟨by rw [ins_ne _ _ hxb]; exact hn, h2 x hxb⟩⟩

theorem heap_push_last (a : Array Obj) (o : Obj) : (a.push o)[a.size]? = some o := by simp
theorem heap_push_ne (a : Array Obj) (o : Obj) {x : Nat} (hx : x ≠ a.size) : (a.push o)[x]? = a[x]? := by
  rw [Array.getElem?_push]; rw [if_neg hx]

theorem Holds.push {w w' : World} {o : Obj} (hw : Holds h w) (he : w'.heap = w.heap.push o) : Holds (ins h w.heap.size o) w' := fun x p hp => by
  rw [he]
  by_cases hx : x = w.heap.size
  · subst hx; rw [ins_eq] at hp; injection hp with hp; subst hp; exact heap_push_last _ _
  · rw [ins_ne _ _ hx] at hp; rw [heap_push_ne _ _ hx]; exact hw x p hp
theorem Framed.push {w w' : World} {o : Obj} (he : w'.heap = w.heap.push o) (h4 : w'.os = w.os) (h5 : w'.tape = w.tape) (h6 : w'.output = w.output) : Framed h (ins h w.heap.size o) w w' :=
  ⟨h4, h5, h6, by rw [he]; simp, fun x hx hn => by
    have hxb : x ≠ w.heap.size := by omega
    exact ⟨by rw [ins_ne _ _ hxb]; exact hn, by rw [he, heap_push_ne _ _ hxb]⟩⟩

theorem asks_of {o : Oper} {s : Sem Value} {w : World} (heq : execOp (evalE ρ) o = s.bind (fun v => Sem.pure (Next.value v))) (hev : noRoomEvent ∈ (s.runT P w #[]).2) (hen : (s.run P w).enabled) :
    noRoomEvent ∈ ((execOp (evalE ρ) o).runT P w #[]).2 ∧ match (execOp (evalE ρ) o).run P w with
      | .halt .blocked _ | .halt .waiting _ | .halt (.unsupported (.initOrder _)) _ => False
      | _ => True := by
  rw [heq]
  refine ⟨Sem.events_bind_left w _ _ _ _ hev, ?_⟩
  have hb : (s.bind (fun v => Sem.pure (Next.value v))).run P w = (s.run P w).andThen fun v w' => .ok (Next.value v) w' := Sem.run_bind' P _ _ w
  rw [hb]
  cases hr : s.run P w with
  | ok v w' => trivial
  | halt h w' =>
    have h3 := hen w'
    rw [hr] at h3
    simp only [Result.andThen]
    cases h with
    | blocked => exact absurd rfl h3.1
    | waiting => exact absurd rfl h3.2.1
    | unsupported u => cases u <;> first | trivial | exact absurd rfl (h3.2.2 _)
    | _ => trivial

theorem heap_da (w : World) {X Y : Array Value} (e : TypeId) (hx : X.toList = Y.toList) : (w.drew.alloc (.cells X e)).heap = w.heap.push (.cells Y e) := by
  have : X = Y := Array.ext' hx
  subst this
  rfl
theorem range0 (f : Nat → Value) : (Array.range 0).map f = #[] := by apply Array.ext'; simp
theorem mul_rep (z : Array Value) (n m : Nat) (hz : z.size = n) : (Builtin.zeroCells z m).toList.length = m * n := by
  rw [Array.length_toList, size_zeroCells, hz]

/-- The law on append, for this layer. -/
theorem append_sound {t tx ty e : TypeId} {i : TypeInfo} {z : Value} {d : TypeDesc} (ht : P.underlying t = some (.slice e)) (hi : P.info? e = some i) (hz : i.zero = some z)
    (htx : P.underlying tx = some d) (hd : ∀ k, d ≠ .int k) (hs0 : 0 < i.size) (hb0 : 0 < i.bytes) (hzs : z.cells.size = i.size) {str : Bool} (hstr : (str = true ∧ d = .string) ∨ (str = false ∧ ∃ e', d = .slice e'))
    {s x : Value} {K : Value → PH → Prop} (hv : vAppend str e i.size i.bytes s x h K) {w : World} (hw : Holds h w) :
    (∃ v' w', (Builtin.append_ #[t, tx] ty #[s, x]).run P w = .ok v' w' ∧ ∃ h', Holds h' w' ∧ Framed h h' w w' ∧ K v' h') ∨
    False := by
  -- the source
  have src : ∃ n news, (Src P i.size tx x n news w) ∧ Builtin.lenOf x = Sem.pure n ∧
      (∀ sLen base, (∀ a, base = some a → Room.holdsV w a (sLen * i.size) = true ∧ w.frozen? (a.add (sLen / 2 * i.size)) = false ∧ ∀ b off l c, x = .slice (some ⟨b, off, none⟩) l c → b ≠ a.block) → 0 < n → (Builtin.mayShare i.size sLen n base x).runT P w #[] = (.ok false w, #[])) ∧
      ((s = .slice none 0 0 ∧ (n = 0 → K (.slice none 0 0) h) ∧
        (0 < n → n * i.bytes ≤ roomBytes ∧ ∀ b cap rest, h b = none → n ≤ cap → news.length + rest.length = cap * i.size → K (.slice (some ⟨b, 0, none⟩) n cap) (ins h b (.cells (news ++ rest).toArray e)))) ∨
      (∃ g len cap c, s = .slice (some ⟨g, 0, none⟩) len cap ∧ h g = some (.cells c e (0, 0)) ∧ c.size = cap * i.size ∧ len ≤ cap ∧ (len + n) * i.bytes ≤ roomBytes ∧ (∀ b off l c, x = .slice (some ⟨b, off, none⟩) l c → b ≠ g) ∧
        ∀ b cap' rest, (b = g ∨ h b = none) → len + n ≤ cap' → (c.toList.take (len * i.size) ++ news).length + rest.length = cap' * i.size →
          K (.slice (some ⟨b, 0, none⟩) (len + n) cap') (ins (dropB h g) b (.cells (c.toList.take (len * i.size) ++ news ++ rest).toArray e)))) := by
    rcases hv with ⟨hst, sv, rfl, h1, hk⟩ | ⟨hst, c, rfl, hk⟩ | ⟨hst, b, off, len, cap, c, e', fr, rfl, hb, hl, hone, hk⟩
    · have hds : d = .string := by rcases hstr with ⟨_, h⟩ | ⟨h, _⟩; exact h; rw [hst] at h; cases h
      subst hds
      refine ⟨sv.size, Go.byteCells sv, by rw [h1]; exact Src.ofString w htx sv, rfl, fun sLen base ha _ => ?_, hk⟩
      exact runT_mayShare_string w i.size sLen sv.size base sv fun a hba => ⟨(ha a hba).1, (ha a hba).2.1⟩
    · have hds : ∃ e', d = .slice e' := by rcases hstr with ⟨h, _⟩ | ⟨_, h⟩; rw [hst] at h; cases h; exact h
      obtain ⟨e', rfl⟩ := hds
      exact ⟨0, [], Src.ofNil w htx c, rfl, fun _ _ _ h0 => absurd h0 (by omega), hk⟩
    · have hds : ∃ e', d = .slice e' := by rcases hstr with ⟨h, _⟩ | ⟨_, h⟩; rw [hst] at h; cases h; exact h
      obtain ⟨e'', rfl⟩ := hds
      have hbw := hw b _ hb
      have hcell : ∀ j u, ((c.toList.drop off).take (len * i.size))[j]? = some u → w.cell? ((⟨b, off, none⟩ : Addr).add j) = some u := fun j u hu => by
        rw [add_lit, cell_of hbw, ← Array.getElem?_toList]
        rw [List.getElem?_take] at hu
        split at hu
        · rw [List.getElem?_drop] at hu; exact hu
        · cases hu
      refine ⟨len, _, Src.ofSlice w htx ⟨b, off, none⟩ len cap _ (by simp; omega) hcell hone, rfl, fun sLen base ha h0 => ?_, hk⟩
      have hx : Room.holdsV w ⟨b, off, none⟩ (len * i.size) = true := by
        simp [Room.holdsV, World.shape?, hbw]; omega
      cases base with
      | none =>
        simp [-Sem.runT_eq, Builtin.mayShare, Room.Sem.bind_def, Room.Sem.runT_bind, Room.runT_holdsCells', Room.Sem.runT_pure', hx]
      | some a =>
        obtain ⟨a1, a2, a3⟩ := ha a rfl
        have hne := a3 b off len cap rfl
        simp [-Sem.runT_eq, Builtin.mayShare, Room.Sem.bind_def, frozen, Sem.bind, Sem.runT, Room.Sem.runT_bind, Room.runT_holdsCells', Room.Sem.runT_pure', a1, hx, a2, Ne.symm hne]
  obtain ⟨n, news, hsrc, hlen, hshare, hk⟩ := src
  rcases hk with ⟨rfl, hk0, hk⟩ | ⟨g, len, cap, c, rfl, hg, hcs, hle, hcap, hap, hk⟩
  · -- onto nil
    have hold : (Builtin.firstCells i.size 0 (.slice none 0 0)).run P w.drew = .ok ([] : List Value).toArray w.drew := run_firstCells_none w.drew i.size 0 0 0
    by_cases hn0 : n = 0
    · subst hn0
      left
      refine ⟨.slice none 0 0, w, ?_, h, hw, Framed.refl h w, hk0 rfl⟩
      have hnl : news = [] := List.eq_nil_of_length_eq_zero (by have := hsrc.newsLen; simpa using this)
      rcases hsrc.kind with ⟨e', hkd⟩ | hkd <;> simp [Builtin.append_, run_underlying ht, run_underlying hkd, Go.sizeOf, typeInfo, hi, hsrc.len, hsrc.cells]
    · obtain ⟨hB0, hk⟩ := hk (by omega)
      have elder : ∀ (Post : Value → World → Prop), ((0 + n) * i.bytes ≤ 140737488355328 → ∃ v' w', (Builtin.append_ #[t, tx] ty #[.slice none 0 0, x]).run P w = .ok v' w' ∧ Post v' w') → ∃ v' w', (Builtin.append_ #[t, tx] ty #[.slice none 0 0, x]).run P w = .ok v' w' ∧ Post v' w' := fun _ hh => hh (by simpa [roomBytes] using hB0)
      rcases elder
        (fun v' w' => ∃ b cap rest, v' = .slice (some ⟨b, 0, none⟩) n cap ∧ h b = none ∧ n ≤ cap ∧ news.length + rest.length = cap * i.size ∧ Holds (ins h b (.cells (news ++ rest).toArray e)) w' ∧ Framed h (ins h b (.cells (news ++ rest).toArray e)) w w')
        (fun hB => by
          have hnb : n ≤ n * i.bytes := Nat.le_mul_of_pos_right _ hb0
          simp only [Nat.zero_add] at hB
          have hr := run_append_grow_src (P := P) w t tx ty e i z ht hi hz none 0 0 [] hold x n news hsrc (by omega) (by omega) (by rw [nextslicecap_zero (by omega)]; simp only [Nat.zero_add]; omega)
          refine ⟨_, _, hr, w.heap.size, grownCap w (0 + n) 0 e, (Builtin.zeroCells z.cells (grownCap w (0 + n) 0 e - (0 + n))).toList, by simp, hw.none (Nat.le_refl _), by simpa using grownCap_ge w (0 + n) 0 e, ?_, ?_, ?_⟩
          · have hge := grownCap_ge w (0 + n) 0 e
            rw [mul_rep _ _ _ hzs, hsrc.newsLen]
            rw [← Nat.add_mul]; congr 1; omega
          · exact Holds.push hw (heap_da w e (by simp))
          · exact Framed.push (heap_da w e (by simp)) rfl rfl rfl) with ⟨v', w', hr, b, cap, rest, rfl, hb, hnc, hlen2, hh, hf⟩
      left
      exact ⟨_, w', hr, _, hh, hf, hk b cap rest hb hnc hlen2⟩
  · -- onto a row of one's own
    have hgw := hw g _ hg
    have hlsz : len * i.size ≤ c.size := by rw [hcs]; exact Nat.mul_le_mul_right _ hle
    have hold : (Builtin.firstCells i.size len (.slice (some ⟨g, 0, none⟩) len cap)).run P w.drew = .ok (c.toList.take (len * i.size)).toArray w.drew :=
      run_firstCells_some w.drew i.size len ⟨g, 0, none⟩ len cap _ (by simp; omega) (fun j u hu => by
        rw [add_lit]
        have : w.drew.heap[g]? = some (.cells c e (0, 0)) := hgw
        rw [cell_of this, ← Array.getElem?_toList]
        rw [List.getElem?_take] at hu
        split at hu
        · simpa using hu
        · cases hu)
    have hsh : 0 < n → (Builtin.mayShare i.size len n (some ⟨g, 0, none⟩) x).runT P w #[] = (.ok false w, #[]) := hshare len (some ⟨g, 0, none⟩) (fun a ha => by
      cases ha
      refine ⟨by simp [Room.holdsV, World.shape?, hgw, hlsz], ?_, fun b off l c' hx => hap b off l c' hx⟩
      rw [add_lit]; unfold World.frozen?; simp [hgw])
    have elder : ∀ (Post : Value → World → Prop), ((len + n) * i.bytes ≤ 140737488355328 → ∃ v' w', (Builtin.append_ #[t, tx] ty #[.slice (some ⟨g, 0, none⟩) len cap, x]).run P w = .ok v' w' ∧ Post v' w') → ∃ v' w', (Builtin.append_ #[t, tx] ty #[.slice (some ⟨g, 0, none⟩) len cap, x]).run P w = .ok v' w' ∧ Post v' w' := fun _ hh => hh (by simpa [roomBytes] using hcap)
    rcases elder
        (fun v' w' => ∃ b cap' rest, v' = .slice (some ⟨b, 0, none⟩) (len + n) cap' ∧ (b = g ∨ h b = none) ∧ len + n ≤ cap' ∧ (c.toList.take (len * i.size) ++ news).length + rest.length = cap' * i.size ∧
          Holds (ins (dropB h g) b (.cells (c.toList.take (len * i.size) ++ news ++ rest).toArray e)) w' ∧ Framed h (ins (dropB h g) b (.cells (c.toList.take (len * i.size) ++ news ++ rest).toArray e)) w w')
        (fun hB => by
          have drop : ∀ (w' : World) (b : Nat) (o : Obj), Holds (ins h b o) w' → Holds (ins (dropB h g) b o) w' := fun w' b o hh x p hp => by
            refine hh x p ?_
            by_cases hx : x = b
            · subst hx; rw [ins_eq] at hp ⊢; exact hp
            · rw [ins_ne _ _ hx] at hp ⊢
              unfold dropB at hp
              cases hq : Nat.beq x g <;> rw [hq] at hp
              · exact hp
              · cases hp
          have fdrop : ∀ (w' : World) (b : Nat) (o : Obj), Framed h (ins h b o) w w' → Framed h (ins (dropB h g) b o) w w' := fun w' b o hf =>
            ⟨hf.os, hf.tape, hf.output, hf.size, fun x hx hn => by
              obtain ⟨a1, a2⟩ := hf.keep x hx hn
              refine ⟨?_, a2⟩
              by_cases hxb : x = b
              · subst hxb; rw [ins_eq] at a1; cases a1
              · rw [ins_ne _ _ hxb]
                unfold dropB
                cases Nat.beq x g
                · exact hn
                · rfl⟩
          by_cases hroom : len + n ≤ cap
          · have hfit : len * i.size + news.length ≤ c.size := by rw [hsrc.newsLen, hcs, ← Nat.add_mul]; exact Nat.mul_le_mul_right _ hroom
            have hr := run_append_room_src (P := P) w t tx ty e i ht hi g 0 len cap x n news hsrc hroom (fun j hj => by
                rw [show 0 + len * i.size + j = (0 + len * i.size) + j from rfl, cell_of hgw]; simp; omega) (fun j hj => by unfold World.frozen?; simp [hgw])
            simp only [Nat.zero_add] at hr
            obtain ⟨s1, s2, s3, s4, s5, s6⟩ := setCells_spec g news (len * i.size) w c hgw
            rw [wr_behind hfit] at s1
            refine ⟨_, _, hr, g, cap, c.toList.drop (len * i.size + news.length), rfl, .inl rfl, hroom, ?_, drop _ _ _ (hw.set s1 s2), fdrop _ _ _ (Framed.set hg s2 s3 s4 s5 s6)⟩
            simp; omega
          · have hnb : (len + n) ≤ (len + n) * i.bytes := Nat.le_mul_of_pos_right _ hb0
            have hfit : Builtin.nextslicecap (len + n) cap * i.bytes ≤ 281474976710656 := growslice_fits (by omega) hB
            have hr := run_append_grow_src (P := P) w t tx ty e i z ht hi hz (some ⟨g, 0, none⟩) len cap _ hold x n news hsrc (by omega) (by omega) hfit
            have hge := grownCap_ge w (len + n) cap e
            refine ⟨_, _, hr, w.heap.size, grownCap w (len + n) cap e, (Builtin.zeroCells z.cells (grownCap w (len + n) cap e - (len + n))).toList, rfl, .inr (hw.none (Nat.le_refl _)), hge, ?_, drop _ _ _ (Holds.push hw ?_), fdrop _ _ _ (Framed.push ?_ rfl rfl rfl)⟩
            · rw [mul_rep _ _ _ hzs, List.length_append, hsrc.newsLen]
              have : (c.toList.take (len * i.size)).length = len * i.size := by simp; omega
              rw [this, ← Nat.add_mul, ← Nat.add_mul]; congr 1; omega
            · exact heap_da w e (by simp)
            · exact heap_da w e (by simp)) with ⟨v', w', hr, b, cap', rest, rfl, hb, hnc, hlen2, hh, hf⟩
    left
    exact ⟨_, w', hr, _, hh, hf, hk b cap' rest hb hnc hlen2⟩

theorem makeS_sound {t e : TypeId} {i : TypeInfo} {z : Value} (ht : P.underlying t = some (.slice e)) (hi : P.info? e = some i) (hz : i.zero = some z) {l c : Value} {K : Value → PH → Prop}
    (hv : vMakeS e i.size i.bytes z.cells l c h K) {w : World} (hw : Holds h w) :
    (∃ v' w', (Instr.makeSlice t l c).run P w = .ok v' w' ∧ ∃ h', Holds h' w' ∧ Framed h h' w w' ∧ K v' h') ∨
    False := by
  obtain ⟨k, k', n, m, rfl, rfl, h0, hnm, hb, h62, hk⟩ := hv
  have wl : IntKind.i64.wrap n = n := by rw [IntKind.wrap_i64]; omega
  have wc : IntKind.i64.wrap m = m := by rw [IntKind.wrap_i64]; omega
  have n1 : ¬ m < 0 := by omega
  have hb' : (i.bytes : Int) * m ≤ 281474976710656 := by simpa using hb
  have n2 : ¬ (281474976710656 < (i.bytes : Int) * m) := by omega
  have n3 : ¬ n < 0 := by omega
  have n4 : ¬ m < n := by omega
  have hrun : (Instr.makeSlice t (.int k n) (.int k' m)).run P w = .ok (.slice (some ⟨w.heap.size, 0, none⟩) n.toNat m.toNat) (w.alloc (.cells (rep z.cells (m.toNat * i.size)) e)) := by
    by_cases hn0 : m.toNat * i.size = 0
    · by_cases hbig : m.toNat * i.bytes > roomBytes <;>
        simp [Instr.makeSlice, run_underlying ht, typeInfo, hi, asInt, asIntOf, wl, wc, n1, n2, n3, n4, Go.sizeOf, askRoom, hbig, mark, hn0, newRow, newObj, rep, Sem.run, range0]
    · by_cases hbig : m.toNat * i.bytes > roomBytes <;>
        simp [Instr.makeSlice, run_underlying ht, typeInfo, hi, asInt, asIntOf, wl, wc, n1, n2, n3, n4, Go.sizeOf, askRoom, hbig, mark, hn0, newRow, newObj, rep, Sem.run, zeroValue, hz]
  left
  refine ⟨_, _, hrun, _, Holds.push hw ?_, Framed.push ?_ rfl rfl rfl, hk w.heap.size (hw.none (Nat.le_refl _))⟩
  · rfl
  · rfl

theorem callV_sound {g : FuncId} {args : Array Value} {K : Value → PH → Prop} {Kp : List PanicEntry → PH → Prop} (hk : ACalls P g args h (AEnd.elim K Kp)) {w : World} (hw : Holds h w) :
    Calls P g args w fun e w'' => match e with
      | .returned v => ∃ h', Holds h' w'' ∧ Framed h h' w w'' ∧ K v h'
      | .panicked c => ∃ h', Holds h' w'' ∧ Framed h h' w w'' ∧ Kp c h'
      | .outgrown => False :=
  (hk.2 w hw).mono fun e w'' he => by
    cases e <;> simp only at he ⊢ <;> exact he

theorem denL_sound {o : Oper} {K : Value → PH → Prop} {Kp : List PanicEntry → PH → Prop} (hd : denL P o ρ h K Kp) : OpL P o ρ h K Kp := by
  obtain ⟨dst, op, type, pos, after, guard⟩ := o
  intro w hw
  cases op <;> simp only [denL] at hd
  case store t a x =>
    cases hs : sizeOf' P t with
    | none => rw [hs] at hd; exact hd.elim
    | some n =>
      rw [hs] at hd
      obtain ⟨b, off, c, e, fr, ha, hb, hn, hl, ho, hf, hk⟩ := hd
      left
      have hbw := hw b _ hb
      have hlen : (evalE ρ x).cells.toList.length = n := by simpa using hn
      have hst := run_storeCellsAt (P := P) (vs := (evalE ρ x).cells.toList) hbw (by rw [hlen]; exact hl) ho (by rw [hlen]; exact hf)
      obtain ⟨s1, s2, s3, s4, s5, s6⟩ := setCells_spec b (evalE ρ x).cells.toList off w c hbw
      have hrun : (execOp (evalE ρ) ⟨dst, .store t a x, type, pos, after, guard⟩).run P w = .ok .skip (w.setCells b off (evalE ρ x).cells.toList) := by
        simp only [execOp, Instr.storeAt, ha, Instr.sureAddr, storeVar, Sem.run_bind, Sem.run_pure, Result.andThen, sizeOf'_run hs, hn, ne_eq, not_true_eq_false, if_false, hst]
      rw [hrun]
      exact ⟨_, hw.set s1 s2, Framed.set hb s2 s3 s4 s5 s6, hk⟩
  case buildSlice t len ps =>
    cases hu : P.underlying t with
    | none => rw [hu] at hd; exact hd.elim
    | some d =>
      rw [hu] at hd
      cases d
      case slice e =>
        simp only at hd
        cases hs : sizeOf' P e with
        | none => rw [hs] at hd; exact hd.elim
        | some n =>
          cases hz : zeroOf P e with
          | none => rw [hs, hz] at hd; exact hd.elim
          | some z =>
            rw [hs, hz] at hd
            obtain ⟨hmax, cs, hf, hk⟩ := hd
            left
            obtain ⟨zv, hzr, hzc⟩ := zeroOf_run hz w
            have hparts : ∀ (place : Nat → Option (Nat × Nat)) (zz : Array Value), Instr.fill place zz ((ps.map fun (i, x) => (i, evalE ρ x)).toList) = Instr.fill place zz (partsOf ρ ps) := fun place zz => by
              unfold partsOf; simp
            have hmax' : ¬ (len * n > 2 ^ 24) := by omega
            have hrun : (Instr.buildSlice t len (ps.map fun (i, x) => (i, evalE ρ x))).run P w = .ok (.slice (some ⟨w.heap.size, 0, none⟩) len len) (w.alloc (.cells cs e)) := by
              have hf' : Instr.fill (fun i => some (i * n, n)) (rep z (len * n)) ((ps.map fun (i, x) => (i, evalE ρ x)).toList) = some cs := by rw [hparts, hf]
              unfold rep at hf'
              by_cases h0 : len * n = 0
              · rw [h0, range0] at hf'
                have hmax0 : ¬ (0 > 2 ^ 24) := by omega
                simp [Instr.buildSlice, run_underlying hu, Result.andThen, sizeOf'_run hs, h0, range0]
                simp only [Array.toList_map] at hf'
                rw [hf']
                simp [newRow, newObj, Sem.run]
              · simp only [Instr.buildSlice, Sem.run_bind, run_underlying hu, Result.andThen, sizeOf'_run hs, hmax', if_false, h0, hzr, Sem.run_pure, hzc, hf']
                simp [newRow, newObj, Sem.run]
            have hx : (execOp (evalE ρ) ⟨dst, .buildSlice t len ps, type, pos, after, guard⟩).run P w = .ok (.value (.slice (some ⟨w.heap.size, 0, none⟩) len len)) (w.alloc (.cells cs e)) := run_vW _ hrun
            rw [hx]
            refine ⟨_, Holds.push hw ?_, Framed.push ?_ rfl rfl rfl, hk w.heap.size (hw.none (Nat.le_refl _))⟩
            · rfl
            · rfl
      all_goals exact hd.elim
  case makeSlice t l c =>
    cases hu : P.underlying t with
    | none => rw [hu] at hd; exact hd.elim
    | some d =>
      rw [hu] at hd
      cases d
      case slice e =>
        simp only at hd
        cases hi : P.info? e with
        | none => rw [hi] at hd; exact hd.elim
        | some i =>
          rw [hi] at hd
          simp only at hd
          cases hz : i.zero with
          | none => rw [hz] at hd; exact hd.elim
          | some z =>
            rw [hz] at hd
            rcases makeS_sound hu hi hz hd hw with ⟨v', w', hr, hh⟩ | ⟨h1, h2⟩
            · left
              have hx : (execOp (evalE ρ) ⟨dst, .makeSlice t l c, type, pos, after, guard⟩).run P w = .ok (.value v') w' := run_vW _ hr
              rw [hx]
              exact hh
      all_goals exact hd.elim
  case panic x =>
    obtain ⟨t, v, hx, hk⟩ := hd
    left
    have hrun : (execOp (evalE ρ) ⟨dst, .panic x, type, pos, after, guard⟩).run P w = .halt (.panic (.iface t v)) w := by
      simp only [execOp, hx, Instr.panic, goPanic, Sem.run_bind]
      rfl
    rw [hrun]
    exact ⟨h, hw, Framed.refl h w, hk⟩
  case call c =>
    obtain ⟨callee, args, argTypes⟩ := c
    cases callee with
    | invoke r m => exact hd.elim
    | value f =>
      have hval : ∀ x : Operand, vCallV P (evalE ρ x) (argsOf ρ args) h K Kp → OpL P ⟨dst, .call ⟨.value x, args, argTypes⟩, type, pos, after, guard⟩ ρ h K Kp := by
        intro x hd w hw
        obtain ⟨g, first, cap, hx, hk⟩ := hd
        left
        have hrun : (execOp (evalE ρ) ⟨dst, .call ⟨.value x, args, argTypes⟩, type, pos, after, guard⟩).run P w = .ok (.enter g (first ++ argsOf ρ args ++ cap)) w := by
          have := run_callFunc hk.1 (first ++ argsOf ρ args ++ cap) w
          simp only [execOp, resolve, hx, Deferred.ofValue, invoke, Sem.run_bind, Sem.run_pure, Result.andThen, argsOf_eq]
          exact this
        rw [hrun]
        exact ⟨rfl, callV_sound hk hw⟩
      cases f with
      | func f =>
        refine hval (.func f) ⟨f, #[], #[], rfl, ?_⟩ w hw
        simpa [vCall] using hd
      | tmp t => exact hval _ hd w hw
      | const v => exact hval _ hd w hw
      | global g => exact hval _ hd w hw
    | builtin b =>
      cases b
      case append =>
        obtain ⟨al⟩ := args
        obtain ⟨tl⟩ := argTypes
        simp only at hd
        split at hd
        · rename_i _ _ s x t tx
          cases hu : P.underlying t with
          | none => rw [hu] at hd; exact hd.elim
          | some d =>
            rw [hu] at hd
            cases d
            case slice e =>
              simp only at hd
              cases hi : P.info? e with
              | none => rw [hi] at hd; exact hd.elim
              | some i =>
                rw [hi] at hd
                simp only at hd
                cases hz : i.zero with
                | none => rw [hz] at hd; exact hd.elim
                | some z =>
                  rw [hz] at hd
                  obtain ⟨hs0, hb0, hzs, hd⟩ := hd
                  have fin : (∃ v' w', (Builtin.append_ #[t, tx] type #[evalE ρ s, evalE ρ x]).run P w = .ok v' w' ∧ ∃ h', Holds h' w' ∧ Framed h h' w w' ∧ K v' h') ∨
                      False := by
                    cases htx : P.underlying tx with
                    | none => rw [htx] at hd; exact hd.elim
                    | some d2 =>
                      rw [htx] at hd
                      cases d2
                      case string => exact append_sound hu hi hz htx (fun k h => by cases h) hs0 hb0 hzs (.inl ⟨rfl, rfl⟩) hd hw
                      case slice e2 => exact append_sound hu hi hz htx (fun k h => by cases h) hs0 hb0 hzs (.inr ⟨rfl, e2, rfl⟩) hd hw
                      all_goals exact hd.elim
                  have heq : execOp (evalE ρ) ⟨dst, .call ⟨.builtin .append, ⟨[s, x]⟩, ⟨[t, tx]⟩⟩, type, pos, after, guard⟩ = (Builtin.append_ #[t, tx] type #[evalE ρ s, evalE ρ x]).bind (fun v => Sem.pure (Next.value v)) := by
                    unfold execOp
                    simp only [resolve, invoke, builtin, List.map_toArray, List.map_cons, List.map_nil]
                    rfl
                  rcases fin with ⟨v', w', hr, hh⟩ | ⟨h1, h2⟩
                  · left
                    have hx : (execOp (evalE ρ) ⟨dst, .call ⟨.builtin .append, ⟨[s, x]⟩, ⟨[t, tx]⟩⟩, type, pos, after, guard⟩).run P w = .ok (.value v') w' := by
                      rw [heq]; exact run_vW _ hr
                    rw [hx]
                    exact hh
            all_goals exact hd.elim
        · exact hd.elim
      all_goals exact hd.elim
  all_goals exact hd.elim
end
end Go.Pw
