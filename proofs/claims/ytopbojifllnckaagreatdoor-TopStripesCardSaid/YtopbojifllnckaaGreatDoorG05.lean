/- Pieces of slices and strings, lengths, assertions: what the model does; the operations that read no memory as one. Operations that make a value or a block. -/
import Derived.Laws.MakeOwn
import Derived.Test.YtopbojifllnckaaGreatDoorG04
namespace Go.Proofs.YtopbojifllnckaaGreatDoor
section
variable {P : Program} {w : World} {E : Env} {tm : Tm} {a : Act}
theorem ble_le {a b : Nat} (h : Nat.ble a b = true) : a ≤ b := Nat.le_of_ble_eq_true h
theorem bound_run {v : Value} {k : IntKind} {l y : Nat} (hv : v = .int k l) (hl : l ≤ y) (code : BoundsCode) : (Instr.sliceBound v y code).run P w = .ok l w := by
  subst hv
  have hc : (0 : Int) ≤ (l : Int) ∧ (l : Int) ≤ (y : Int) := by omega
  simp only [Instr.sliceBound, asIntOf, Sem.run_bind, Sem.run_pure, Result.andThen_ok, if_pos hc, Int.toNat_natCast]
theorem ixO_val (ht : TmR E tm a.tmps) {d l : Nat} {x : Option Operand} (h : ixO tm d x = some l) : (x = none ∧ l = d) ∨ ∃ y k, x = some y ∧ a.eval y = .int k l := by
  unfold ixO at h
  split at h
  · exact Or.inl ⟨rfl, by injection h with h; exact h.symm⟩
  · next y =>
    split at h
    · next v hv =>
      obtain ⟨k, hk⟩ := ixOf_int h (aev_conc ht hv)
      exact Or.inr ⟨y, k, rfl, hk⟩
    · cases h
theorem bounds_run (ht : TmR E tm a.tmps) (isS : Bool) {len cap l h : Nat} {lo hi : Option Operand} (hl : ixO tm 0 lo = some l) (hh : ixO tm len hi = some h) (h1 : l ≤ h) (h2 : h ≤ cap) :
    (Instr.sliceBounds isS len cap (lo.map a.eval) (hi.map a.eval) none).run P w = .ok (l, h, cap) w := by
  rcases ixO_val ht hl with ⟨rfl, rfl⟩ | ⟨y, k, rfl, hy⟩ <;> rcases ixO_val ht hh with ⟨rfl, rfl⟩ | ⟨z, k', rfl, hz⟩
  · simp [Instr.sliceBounds]
  · have := fun code => bound_run (P := P) (w := w) hz h2 code
    cases isS <;> simp [Instr.sliceBounds, this]
  · have := fun code => bound_run (P := P) (w := w) hy h1 code
    simp [Instr.sliceBounds, this]
  · have e1 := fun code => bound_run (P := P) (w := w) hz h2 code
    have e2 := fun code => bound_run (P := P) (w := w) hy h1 code
    cases isS <;> simp [Instr.sliceBounds, e1, e2]
theorem bounds_run3 (ht : TmR E tm a.tmps) {len cap l h m : Nat} {lo : Option Operand} {y z : Operand} {km : IntKind} (hl : ixO tm 0 lo = some l) (hh : ixO tm len (some z) = some h) (hm : a.eval y = .int km m) (h1 : l ≤ h) (h2 : h ≤ m) (h3 : m ≤ cap) :
    (Instr.sliceBounds true len cap (lo.map a.eval) (some (a.eval z)) (some (a.eval y))).run P w = .ok (l, h, m) w := by
  have e3 := fun code => bound_run (P := P) (w := w) hm h3 code
  rcases ixO_val ht hh with ⟨h0, -⟩ | ⟨z', k', hz', hz⟩
  · cases h0
  injection hz' with hz'
  subst hz'
  have e1 := fun code => bound_run (P := P) (w := w) hz h2 code
  rcases ixO_val ht hl with ⟨rfl, rfl⟩ | ⟨y', k, rfl, hy⟩
  · simp [Instr.sliceBounds, e1, e3]
  · have e2 := fun code => bound_run (P := P) (w := w) hy h1 code
    simp [Instr.sliceBounds, e1, e2, e3]
theorem slice_sound (ht : TmR E tm a.tmps) {t : TypeId} {x v : AV} {lo hi mx : Option Operand} {cx : Value} (h : sliceA P tm t x lo hi mx = some v) (hx : conc E x = some cx) :
    ∃ c, (Instr.sliceAt t cx (lo.map a.eval) (hi.map a.eval) (mx.map a.eval)).run P w = .ok c w ∧ conc E v = some c := by
  unfold sliceA at h
  split at h <;> first | (cases h; done) | skip
  · next s h1 =>
    split at h <;> first | (cases h; done) | skip
    next l h' e1 e2 =>
    cases hb : (Nat.ble l h' && Nat.ble h' s.length) with
    | false => rw [hb] at h; cases h
    | true =>
      rw [hb] at h
      simp only [cond_true, Option.some.injEq, conc] at h hx
      subst h hx
      rw [Bool.and_eq_true] at hb
      have b1 := ble_le hb.1
      have b2 := ble_le hb.2
      have hsz : (⟨s.toArray⟩ : ByteArray).size = s.length := by simp [ByteArray.size]
      have hr := bounds_run (P := P) (w := w) ht false (len := s.length) (cap := s.length) e1 e2 b1 b2
      refine ⟨.string ((⟨s.toArray⟩ : ByteArray).extract l h'), ?_, ?_⟩
      · simp only [Instr.sliceAt, Instr.slice, Sem.run_bind, run_underlying h1, Result.andThen_ok, Option.map_none, Option.isSome_none, hsz, Bool.false_eq_true, if_false, hr, Sem.run_pure]
      · simp only [conc, Option.some.injEq, Value.string.injEq]
        apply ByteArray.ext
        simp [ByteArray.data_extract]
  · next e p n cp ex h1 =>
    split at h <;> first | (cases h; done) | skip
    · next l h' s e1 e2 hs =>
      obtain ⟨s1, -, -⟩ := szB_run hs w
      cases hb : (Nat.ble l h' && (Nat.ble h' cp && (Nat.blt l cp || (Nat.beq l 0 || ex)))) with
      | false =>
        rw [hb] at h
        simp only [cond_false] at h
        cases hb2 : (Nat.ble l h' && (Nat.ble h' cp && (Nat.beq l cp && !ex))) with
        | false => rw [hb2] at h; cases h
        | true =>
          rw [hb2] at h
          simp only [cond_true] at h
          rw [Bool.and_eq_true, Bool.and_eq_true, Bool.and_eq_true] at hb2
          have b1 := ble_le hb2.1
          have b2 := ble_le hb2.2.1
          have b3 := beq_eq hb2.2.2.1
          have b4 : ex = false := by simpa using hb2.2.2.2
          split at h <;> first | (cases h; done) | skip
          next b o =>
          injection h with h
          subst h b4
          simp only [conc, Option.map_eq_some_iff] at hx
          obtain ⟨r, hr0, rfl⟩ := hx
          have hr := bounds_run (P := P) (w := w) ht true (len := n) (cap := cp + r.2) e1 e2 b1 (by omega)
          refine ⟨.slice (some (if cp + r.2 = l then ⟨r.1, o, none⟩ else (⟨r.1, o, none⟩ : Addr).add (l * s))) (h' - l) (cp + r.2 - l), ?_, ?_⟩
          · simp only [Instr.sliceAt, Instr.slice, Sem.run_bind, run_underlying h1, Result.andThen_ok, Option.map_none, Bool.false_eq_true, if_false, hr, s1, Sem.run_pure]
            split <;> rfl
          · have h3 : (if cp + r.2 = l then (⟨r.1, o, none⟩ : Addr) else (⟨r.1, o, none⟩ : Addr).add (l * s)) = ⟨r.1, if r.2 = 0 then o else o + l * s, none⟩ := by
              rw [Addr.add_mid]
              by_cases h0 : r.2 = 0
              · rw [if_pos (by omega), if_pos h0]
              · rw [if_neg (by omega), if_neg h0]
            rw [h3]
            simp only [conc, hr0, Option.map_some, Option.some.injEq, Value.slice.injEq, true_and]
            simp
            omega
      | true =>
        rw [hb] at h
        simp only [cond_true] at h
        rw [Bool.and_eq_true, Bool.and_eq_true] at hb
        have b1 := ble_le hb.1
        have b2 := ble_le hb.2.1
        cases p with
        | none =>
          simp only [Option.some.injEq, conc] at h hx
          subst h hx
          have hr := bounds_run (P := P) (w := w) ht true (len := n) (cap := cp) e1 e2 b1 b2
          refine ⟨.slice none (h' - l) (cp - l), ?_, by simp [conc]⟩
          simp only [Instr.sliceAt, Instr.slice, Sem.run_bind, run_underlying h1, Result.andThen_ok, Option.map_none, hr, s1, Sem.run_pure]
          simp
        | some q =>
          obtain ⟨b, o⟩ := q
          simp only [Option.some.injEq] at h
          subst h
          simp only [conc, Option.map_eq_some_iff] at hx
          obtain ⟨r, hr0, rfl⟩ := hx
          obtain ⟨cc, hcc⟩ : ∃ cc, cc = (if ex then cp else cp + r.2) := ⟨_, rfl⟩
          rw [← hcc]
          have hle : cp ≤ cc := by rw [hcc]; split <;> omega
          have hr := bounds_run (P := P) (w := w) ht true (len := n) (cap := cc) e1 e2 b1 (by omega)
          refine ⟨.slice (some (if cc = l then ⟨r.1, o, none⟩ else (⟨r.1, o, none⟩ : Addr).add (l * s))) (h' - l) (cc - l), ?_, ?_⟩
          · simp only [Instr.sliceAt, Instr.slice, Sem.run_bind, run_underlying h1, Result.andThen_ok, Option.map_none, hr, s1, Sem.run_pure]
            split <;> rfl
          · have h3 : (if cc = l then (⟨r.1, o, none⟩ : Addr) else (⟨r.1, o, none⟩ : Addr).add (l * s)) = ⟨r.1, bif Nat.beq cp l then o else o + l * s, none⟩ := by
              rw [Addr.add_mid]
              cases hq : Nat.beq cp l with
              | true =>
                have hq' := beq_eq hq
                subst hq'
                simp only [cond_true]
                by_cases hce : cc = cp
                · rw [if_pos hce]
                · rw [if_neg hce]
                  have h4 := hb.2.2
                  rw [Bool.or_eq_true, Bool.or_eq_true] at h4
                  rcases h4 with h4 | h4 | h4
                  · exact absurd (blt_lt h4) (Nat.lt_irrefl _)
                  · rw [beq_eq h4]; simp
                  · rw [h4] at hcc; simp at hcc; exact absurd hcc hce
              | false =>
                simp only [cond_false]
                have hne : cp ≠ l := fun e => by subst e; simp at hq
                rw [if_neg (by omega)]
            rw [h3]
            simp only [conc, hr0, Option.map_some, Option.some.injEq, Value.slice.injEq, true_and]
            rw [hcc]
            cases ex with
            | true => rfl
            | false => simp; omega
    · next m l h' s e1 e2 hs =>
      obtain ⟨s1, -, -⟩ := szB_run hs w
      split at h <;> first | (cases h; done) | skip
      next hz mv hmv =>
      split at h <;> first | (cases h; done) | skip
      next m' hm' =>
      obtain ⟨km, hkm⟩ := ixOf_int hm' (aev_conc ht hmv)
      cases hb : (Nat.ble l h' && (Nat.ble h' m' && Nat.ble m' cp)) with
      | false => rw [hb] at h; cases h
      | true =>
        rw [hb] at h
        simp only [cond_true] at h
        rw [Bool.and_eq_true, Bool.and_eq_true] at hb
        have b1 := ble_le hb.1
        have b2 := ble_le hb.2.1
        have b3 := ble_le hb.2.2
        cases p with
        | none =>
          simp only [Option.some.injEq, conc] at h hx
          subst h hx
          have hr := bounds_run3 (P := P) (w := w) ht (len := n) (cap := cp) e1 e2 hkm b1 b2 b3
          refine ⟨.slice none (h' - l) (m' - l), ?_, by simp [conc]⟩
          simp only [Instr.sliceAt, Instr.slice, Sem.run_bind, run_underlying h1, Result.andThen_ok, Option.map_some, hr, s1, Sem.run_pure]
          simp
        | some q =>
          obtain ⟨b, o⟩ := q
          simp only [Option.some.injEq] at h
          subst h
          simp only [conc, Option.map_eq_some_iff] at hx
          obtain ⟨r, hr0, rfl⟩ := hx
          have hle : cp ≤ (if ex then cp else cp + r.2) := by split <;> omega
          have hr := bounds_run3 (P := P) (w := w) ht (len := n) (cap := if ex then cp else cp + r.2) e1 e2 hkm b1 b2 (by omega)
          refine ⟨.slice (some (if m' = l then ⟨r.1, o, none⟩ else (⟨r.1, o, none⟩ : Addr).add (l * s))) (h' - l) (m' - l), ?_, ?_⟩
          · simp only [Instr.sliceAt, Instr.slice, Sem.run_bind, run_underlying h1, Result.andThen_ok, Option.map_some, hr, s1, Sem.run_pure]
            split <;> rfl
          · have h3 : (if m' = l then (⟨r.1, o, none⟩ : Addr) else (⟨r.1, o, none⟩ : Addr).add (l * s)) = ⟨r.1, bif Nat.beq m' l then o else o + l * s, none⟩ := by
              rw [Addr.add_mid]
              cases hq : Nat.beq m' l with
              | true => rw [if_pos (beq_eq hq)]; rfl
              | false => rw [if_neg (fun e => by subst e; simp at hq)]; rfl
            rw [h3]
            simp [conc, hr0]
  · next e b o0 o1 ex h1 =>
    split at h <;> first | (cases h; done) | skip
    next s hs0 =>
    obtain ⟨hs, -, -⟩ := szB_run hs0 w
    injection h with h
    subst h
    have hx0 := hx
    simp only [conc, Option.map_eq_some_iff] at hx
    obtain ⟨r, hr0, rfl⟩ := hx
    refine ⟨_, ?_, hx0⟩
    simp only [Instr.sliceAt, Instr.slice, Sem.run_bind, run_underlying h1, Result.andThen_ok, Option.map_none, Instr.sliceBounds, Sem.run_pure, hs]
    simp [Addr.add_mid]
  · next n e b o h1 =>
    split at h <;> first | (cases h; done) | skip
    next l h' s e1 e2 hs =>
    obtain ⟨s1, -, -⟩ := szB_run hs w
    cases hb : (Nat.ble l h' && Nat.ble h' n) with
    | false => rw [hb] at h; cases h
    | true =>
      rw [hb] at h
      simp only [cond_true, Option.some.injEq] at h
      subst h
      rw [Bool.and_eq_true] at hb
      have b1 := ble_le hb.1
      have b2 := ble_le hb.2
      simp only [conc, Option.map_eq_some_iff] at hx
      obtain ⟨r, hr0, rfl⟩ := hx
      have hr := bounds_run (P := P) (w := w) ht false (len := n) (cap := n) e1 e2 b1 b2
      refine ⟨.slice (some (if n = l then ⟨r.1, o, none⟩ else (⟨r.1, o, none⟩ : Addr).add (l * s))) (h' - l) (n - l), ?_, ?_⟩
      · simp only [Instr.sliceAt, Sem.run_bind, run_underlying h1, Result.andThen_ok, Option.map_none, Instr.sureAddr, hr, s1, Sem.run_pure]
      · have h3 : (if n = l then (⟨r.1, o, none⟩ : Addr) else (⟨r.1, o, none⟩ : Addr).add (l * s)) = ⟨r.1, bif Nat.beq n l then o else o + l * s, none⟩ := by
          rw [Addr.add_mid]
          cases hq : Nat.beq n l with
          | true => rw [if_pos (beq_eq hq)]; rfl
          | false => rw [if_neg (fun e => by subst e; simp at hq)]; rfl
        rw [h3]
        simp [conc, hr0]
theorem len_sound {t : TypeId} {x v : AV} {cx : Value} {ts : Array TypeId} (hts : ts[0]? = some t) (ty : TypeId) (h : lenA P t x = some v) (hx : conc E x = some cx) : ∃ c, (Builtin.len_ ts ty #[cx]).run P w = .ok c w ∧ conc E v = some c := by
  unfold lenA at h
  split at h <;> first | (cases h; done) | skip
  · next l h1 =>
    simp only [Option.some.injEq, conc] at h hx
    subst h hx
    have hsz : (⟨l.toArray⟩ : ByteArray).size = l.length := by simp [ByteArray.size]
    exact ⟨.int .i64 l.length, by simp [Builtin.len_, hts, run_underlying h1, goInt, hsz], by simp [conc]⟩
  · next e p n c ex h1 =>
    simp only [Option.some.injEq] at h
    subst h
    cases p with
    | none =>
      simp only [conc, Option.some.injEq] at hx
      subst hx
      exact ⟨.int .i64 n, by simp [Builtin.len_, hts, run_underlying h1, goInt], by simp [conc]⟩
    | some q =>
      obtain ⟨b, o⟩ := q
      simp only [conc, Option.map_eq_some_iff] at hx
      obtain ⟨r, -, rfl⟩ := hx
      exact ⟨.int .i64 n, by simp [Builtin.len_, hts, run_underlying h1, goInt], by simp [conc]⟩
  · next e b o0 o1 ex h1 =>
    simp only [Option.some.injEq] at h
    subst h
    simp only [conc, Option.map_eq_some_iff] at hx
    obtain ⟨r, -, rfl⟩ := hx
    exact ⟨.int .i64 0, by simp [Builtin.len_, hts, run_underlying h1, goInt], by simp [conc]⟩
  · next n e h1 =>
    simp only [Option.some.injEq] at h
    subst h
    exact ⟨.int .i64 n, by simp [Builtin.len_, hts, run_underlying h1, goInt], by simp [conc]⟩
theorem zero_run {t : TypeId} {z : AV} (h : zeroA P t = some z) (w : World) : ∃ c, (zeroValue t).run P w = .ok c w ∧ (∀ E, conc E z = some c) ∧ ∃ i, P.info? t = some i ∧ i.zero = some c := by
  unfold zeroA at h
  split at h <;> first | (cases h; done) | skip
  next i hi =>
  split at h <;> first | (cases h; done) | skip
  next c hc =>
  exact ⟨c, by simp [zeroValue, typeInfo, hi, hc], fun E => absV_conc E h, i, hi, hc⟩
theorem assert_sound {t xt : TypeId} {x v : AV} {ok : Bool} {cx : Value} (h : assertA P t x ok = some v) (hx : conc E x = some cx) : ∃ c, (Instr.typeAssert cx xt t ok).run P w = .ok c w ∧ conc E v = some c := by
  unfold assertA at h
  split at h <;> first | (cases h; done) | skip
  · next d t' v' hd h1 =>
    simp only [conc, Option.map_eq_some_iff] at hx
    obtain ⟨c', hc', rfl⟩ := hx
    have hdi : ∀ ms, d ≠ .interface ms := fun ms e => hd ms e
    cases hb : Nat.beq t' t with
    | true =>
      rw [hb] at h
      obtain rfl := beq_eq hb
      simp only [cond_true, Option.some.injEq] at h
      subst h
      cases ok with
      | true =>
        refine ⟨.tuple #[c', .bool true], ?_, by simp [conc, concs, hc']⟩
        unfold Instr.typeAssert
        rw [Sem.run_bind, run_underlying h1]
        cases d <;> first | exact absurd rfl (hdi _) | (simp; done)
      | false =>
        refine ⟨c', ?_, by simpa using hc'⟩
        unfold Instr.typeAssert
        rw [Sem.run_bind, run_underlying h1]
        cases d <;> first | exact absurd rfl (hdi _) | (simp; done)
    | false =>
      rw [hb] at h
      have hne : t' ≠ t := fun e => by subst e; simp at hb
      cases ok with
      | false => cases h
      | true =>
        simp only [cond_true, cond_false, Option.map_eq_some_iff] at h
        obtain ⟨z, hz, rfl⟩ := h
        obtain ⟨c, h2, h3, -⟩ := zero_run hz w
        refine ⟨.tuple #[c, .bool false], ?_, by simp [conc, concs, h3]⟩
        unfold Instr.typeAssert
        rw [Sem.run_bind, run_underlying h1]
        cases d <;> first | exact absurd rfl (hdi _) | (simp [hne, h2]; done)
  · next d hd h1 =>
    simp only [conc, Option.some.injEq] at hx
    subst hx
    have hdi : ∀ ms, d ≠ .interface ms := fun ms e => hd ms e
    cases ok with
    | false => cases h
    | true =>
      simp only [cond_true, Option.map_eq_some_iff] at h
      obtain ⟨z, hz, rfl⟩ := h
      obtain ⟨c, h2, h3, -⟩ := zero_run hz w
      refine ⟨.tuple #[c, .bool false], ?_, by simp [conc, concs, h3]⟩
      unfold Instr.typeAssert
      rw [Sem.run_bind, run_underlying h1]
      cases d <;> first | exact absurd rfl (hdi _) | (simp [h2]; done)
theorem built_sound {b : Builtin} {ts : Array TypeId} {ty : TypeId} {cs : Array Bool} {vs : List AV} {v : AV} {ds : List Value} (h : builtA P b ts vs = some v) (hv : concs E vs = some ds) :
    ∃ c, (builtin b ts ty cs ds.toArray).run P w = .ok (.value c) w ∧ conc E v = some c := by
  unfold builtA at h
  split at h <;> first | (cases h; done) | skip
  · next x =>
    split at h <;> first | (cases h; done) | skip
    next t ht =>
    obtain ⟨c, es, rfl, h1, h2⟩ := concs_cons hv
    obtain rfl := concs_nil h2
    obtain ⟨c', h3, h4⟩ := len_sound (w := w) ht ty h h1
    exact ⟨c', by simp [builtin, h3], h4⟩
  · next p n c =>
    split at h <;> first | (cases h; done) | skip
    next t ht =>
    split at h <;> first | (cases h; done) | skip
    next e h1 =>
    simp only [Option.some.injEq] at h
    subst h
    obtain ⟨c1, es, rfl, h2, h3⟩ := concs_cons hv
    obtain rfl := concs_nil h3
    cases p with
    | none =>
      simp only [conc, Option.some.injEq] at h2
      subst h2
      exact ⟨.int .i64 c, by simp [builtin, Builtin.cap_, ht, run_underlying h1, goInt], by simp [conc]⟩
    | some q =>
      obtain ⟨b, o⟩ := q
      simp only [conc, Option.map_eq_some_iff] at h2
      obtain ⟨r, -, rfl⟩ := h2
      exact ⟨.int .i64 c, by simp [builtin, Builtin.cap_, ht, run_underlying h1, goInt], by simp [conc]⟩
  · next k x k' y =>
    simp only [Option.some.injEq] at h
    subst h
    obtain ⟨c1, es, rfl, h2, h3⟩ := concs_cons hv
    obtain ⟨c2, es, rfl, h4, h5⟩ := concs_cons h3
    obtain rfl := concs_nil h5
    simp only [conc, Option.some.injEq] at h2 h4
    subst h2 h4
    refine ⟨.int k (if y < x then y else x), by simp [builtin, Builtin.min_, Builtin.min2], ?_⟩
    by_cases hyx : y < x <;> simp [conc, hyx]
  · next k x k' y =>
    simp only [Option.some.injEq] at h
    subst h
    obtain ⟨c1, es, rfl, h2, h3⟩ := concs_cons hv
    obtain ⟨c2, es, rfl, h4, h5⟩ := concs_cons h3
    obtain rfl := concs_nil h5
    simp only [conc, Option.some.injEq] at h2 h4
    subst h2 h4
    refine ⟨.int k (if x < y then y else x), by simp [builtin, Builtin.max_, Builtin.max2], ?_⟩
    by_cases hyx : x < y <;> simp [conc, hyx]
theorem opP_sound (ht : TmR E tm a.tmps) {o : Oper} {v : AV} (h : opP P tm o = some v) : ∃ c, (execOp a.eval o).run P w = .ok (.value c) w ∧ conc E v = some c := by
  obtain ⟨dst, op, ty, pos, after, guard⟩ := o
  unfold opP at h
  simp only at h
  split at h
  · exact ⟨_, rfl, aev_conc ht h⟩
  · exact ⟨_, rfl, aev_conc ht h⟩
  · next c x y =>
    split at h <;> first | (cases h; done) | skip
    next t hc =>
    have h1 := aev_conc ht hc
    simp only [conc, Option.some.injEq] at h1
    cases t with
    | true => exact ⟨a.eval x, by simp [execOp, ← h1, asBool], aev_conc ht h⟩
    | false => exact ⟨a.eval y, by simp [execOp, ← h1, asBool], aev_conc ht h⟩
  · next x =>
    split at h <;> first | (cases h; done) | skip
    · next p hx =>
      have h1 := aev_conc ht hx
      injection h with h
      subst h
      obtain ⟨b, o⟩ := p
      have h2 := h1
      simp only [conc, Option.map_eq_some_iff] at h1
      obtain ⟨r, -, h1⟩ := h1
      exact ⟨a.eval x, by simp [execOp, ← h1], h2⟩
    · next f y z hx =>
      have h1 := aev_conc ht hx
      injection h with h
      subst h
      have h2 := h1
      simp only [conc, Option.bind_eq_some_iff, Option.map_eq_some_iff] at h1
      obtain ⟨_, _, _, _, h1⟩ := h1
      exact ⟨a.eval x, by simp [execOp, ← h1], h2⟩
    · next t y hx =>
      have h1 := aev_conc ht hx
      injection h with h
      subst h
      have h2 := h1
      simp only [conc, Option.map_eq_some_iff] at h1
      obtain ⟨r, -, h1⟩ := h1
      exact ⟨a.eval x, by simp [execOp, ← h1], h2⟩
  · next bop t x y yt =>
    split at h <;> first | (cases h; done) | skip
    next vx vy hx hy =>
    obtain ⟨c, h1, h2⟩ := bin_sound (w := w) h (aev_conc ht hx) (aev_conc ht hy)
    exact ⟨c, by simp only [execOp]; rw [Sem.run_bind, h1]; rfl, h2⟩
  · next uop t x =>
    split at h <;> first | (cases h; done) | skip
    next vx hx =>
    obtain ⟨c, h1, h2⟩ := un_sound (P := P) (w := w) h (aev_conc ht hx)
    exact ⟨c, by simp only [execOp]; rw [Sem.run_bind, h1]; rfl, h2⟩
  · next s d x =>
    split at h <;> first | (cases h; done) | skip
    next vx hx =>
    obtain ⟨c, h1, h2⟩ := conv_sound (P := P) (w := w) h (aev_conc ht hx)
    exact ⟨c, by simp only [execOp]; rw [Sem.run_bind, h1]; rfl, h2⟩
  · next t x =>
    split at h <;> first | (cases h; done) | skip
    next d vx hd hu hx =>
    injection h with h
    subst h
    have hdi : ∀ ms, d ≠ .interface ms := fun ms e => hd ms e
    refine ⟨.iface t (a.eval x), ?_, by simp [conc, aev_conc ht hx]⟩
    simp only [execOp, Instr.makeInterface]
    rw [Sem.run_bind, Sem.run_bind, run_underlying hu]
    cases d <;> first | exact absurd rfl (hdi _) | rfl
  · next f x y =>
    split at h <;> first | (cases h; done) | skip
    next vx vy hx hy =>
    injection h with h
    subst h
    have e1 := avs_concs ht hx
    have e2 := avs_concs ht hy
    refine ⟨.func (.func f) (x.map a.eval) (y.map a.eval), by simp [execOp, Instr.makeFunc], ?_⟩
    simp only [conc, e1, e2, Option.bind_some, Option.map_some, Option.some.injEq, Value.func.injEq, true_and]
    constructor <;> (apply Array.ext'; simp)
  · next t x i =>
    split at h <;> first | (cases h; done) | skip
    next vx hx =>
    obtain ⟨c, h1, h2⟩ := fieldAddr_sound (P := P) (w := w) h (aev_conc ht hx)
    exact ⟨c, by simp only [execOp]; rw [Sem.run_bind, h1]; rfl, h2⟩
  · next t x i =>
    split at h <;> first | (cases h; done) | skip
    next vx hx =>
    obtain ⟨c, h1, h2⟩ := field_sound (P := P) (w := w) h (aev_conc ht hx)
    exact ⟨c, by simp only [execOp]; rw [Sem.run_bind, h1]; rfl, h2⟩
  · next t x i =>
    split at h <;> first | (cases h; done) | skip
    next vx vi hx hi =>
    obtain ⟨c, h1, h2⟩ := indexAddr_sound (P := P) (w := w) h (aev_conc ht hx) (aev_conc ht hi)
    exact ⟨c, by simp only [execOp]; rw [Sem.run_bind, h1]; rfl, h2⟩
  · next t x i =>
    split at h <;> first | (cases h; done) | skip
    next vx vi hx hi =>
    obtain ⟨c, h1, h2⟩ := index_sound (P := P) (w := w) h (aev_conc ht hx) (aev_conc ht hi)
    exact ⟨c, by simp only [execOp]; rw [Sem.run_bind, h1]; rfl, h2⟩
  · next t x lo hi mx =>
    split at h <;> first | (cases h; done) | skip
    next vx hx =>
    obtain ⟨c, h1, h2⟩ := slice_sound (P := P) (w := w) ht h (aev_conc ht hx)
    exact ⟨c, by simp only [execOp]; rw [Sem.run_bind, h1]; rfl, h2⟩
  · next x i =>
    split at h <;> first | (cases h; done) | skip
    next vs hx =>
    have h1 := aev_conc ht hx
    simp only [conc, Option.map_eq_some_iff] at h1
    obtain ⟨ds, hd, h1⟩ := h1
    obtain ⟨c, h2, h3⟩ := concs_get hd h
    exact ⟨c, by simp [execOp, ← h1, Instr.extract, h2], h3⟩
  · next x xt t ok =>
    split at h <;> first | (cases h; done) | skip
    next vx hx =>
    obtain ⟨c, h1, h2⟩ := assert_sound (P := P) (w := w) (xt := xt) h (aev_conc ht hx)
    exact ⟨c, by simp only [execOp]; rw [Sem.run_bind, h1]; rfl, h2⟩
  · next b args ts =>
    split at h <;> first | (cases h; done) | skip
    next vs hv =>
    have e1 := avs_concs ht hv
    obtain ⟨c, h1, h2⟩ := built_sound (P := P) (w := w) (ty := ty) (cs := args.map fun | .const _ => true | _ => false) h e1
    refine ⟨c, ?_, h2⟩
    simp only [execOp, resolve, Sem.run_bind, Sem.run_pure, Result.andThen_ok, invoke]
    rw [← h1]
    congr 2
    apply Array.ext'
    simp
  · cases h
end
end Go.Proofs.YtopbojifllnckaaGreatDoor
namespace Go.Proofs.YtopbojifllnckaaGreatDoor

noncomputable def trL : List AV → Nat → Tr AV → Tr AV
  | [], _, t => t
  | v :: vs, k, t => trL vs (k + 1) (Tr.put (some v) t k)
theorem trL_get : ∀ (vs : List AV) (k : Nat) (t : Tr AV) (i : Nat), k + vs.length < 2 ^ 26 → (trL vs k t).get i = if k ≤ i ∧ i < k + vs.length then vs[i - k]? else t.get i
  | [], k, t, i, _ => by
    simp only [trL, List.length_nil, Nat.add_zero]
    rw [if_neg (by omega)]
  | v :: vs, k, t, i, h => by
    simp only [List.length_cons] at h ⊢
    simp only [trL]
    rw [trL_get vs (k + 1) _ i (by omega), Tr.get_put _ _ _ _ (by omega)]
    by_cases h1 : k + 1 ≤ i ∧ i < k + 1 + vs.length
    · rw [if_pos h1, if_pos (by omega), show i - k = (i - (k + 1)) + 1 by omega, List.getElem?_cons_succ]
    · rw [if_neg h1]
      by_cases h2 : i = k
      · subst h2
        rw [if_pos rfl, if_pos (by omega), Nat.sub_self, List.getElem?_cons_zero]
      · rw [if_neg h2, if_neg (by omega)]
/-- A block of just these cells. -/
noncomputable def aoL (elem : TypeId) (l : List AV) : Option AO := bif Nat.blt l.length 60000000 then some (.cells l.length (trL l 0 .e) elem none false) else none
theorem aoL_ok {P : Program} {E : Env} {elem : TypeId} {l : List AV} {o : AO} {ds : List Value} (h : aoL elem l = some o) (hd : concs E l = some ds) : ObjOK P E 0 o (.cells ds.toArray elem) := by
  unfold aoL at h
  cases hb : Nat.blt l.length 60000000 with
  | false => rw [hb] at h; cases h
  | true =>
    rw [hb] at h
    simp only [cond_true, Option.some.injEq] at h
    subst h
    have hlt := blt_lt hb
    refine ⟨ds.toArray, rfl, by simp [concs_length hd], fun _ => rfl, fun i v hi => ?_⟩
    unfold rdO at hi
    simp only at hi
    rw [trL_get l 0 .e i (by omega)] at hi
    cases hb2 : Nat.blt i l.length with
    | false => rw [hb2] at hi; cases hi
    | true =>
      rw [hb2] at hi
      have hil := blt_lt hb2
      rw [if_pos (by omega), Nat.sub_zero, List.getElem?_eq_getElem hil] at hi
      simp only [cond_true, Option.some.injEq] at hi
      obtain ⟨c, h1, h2⟩ := concs_get hd (List.getElem?_eq_getElem hil)
      rw [hi] at h2
      exact ⟨c, by simpa using h1, h2⟩

/-! ### parts laid into cells -/
def setR {α : Type} (l : List α) (o : Nat) (vs : List α) : List α := l.take o ++ (vs ++ l.drop (o + vs.length))
noncomputable def fillA (place : Nat → Option (Nat × Nat)) (cells : List AV) : List (Nat × AV) → Option (List AV)
  | [] => some cells
  | (i, v) :: rest => match place i with
    | none => none
    | some (o, s) => bif Nat.beq v.cells.length s && Nat.ble (o + v.cells.length) cells.length then fillA place (setR cells o v.cells) rest else none
theorem setR_get {α : Type} (l : List α) (o : Nat) (vs : List α) (h : o + vs.length ≤ l.length) (i : Nat) : (setR l o vs)[i]? = if i < o then l[i]? else if i < o + vs.length then vs[i - o]? else l[i]? := by
  unfold setR
  have e : (l.take o).length = o := by simp; omega
  by_cases h1 : i < o
  · rw [if_pos h1, List.getElem?_append_left (by omega), List.getElem?_take, if_pos h1]
  · rw [if_neg h1, List.getElem?_append_right (by omega), e]
    by_cases h2 : i < o + vs.length
    · rw [if_pos h2, List.getElem?_append_left (by omega)]
    · rw [if_neg h2, List.getElem?_append_right (by omega), List.getElem?_drop]
      congr 1
      omega
theorem fold_set : ∀ (vs : List Value) (k o : Nat) (cells : Array Value), o + k + vs.length ≤ cells.size →
    ((vs.zipIdx k).foldl (fun cs p => cs.setIfInBounds (o + p.2) p.1) cells).toList = setR cells.toList (o + k) vs
  | [], k, o, cells, _ => by simp [setR]
  | v :: vs, k, o, cells, h => by
    simp only [List.length_cons] at h
    rw [List.zipIdx_cons, List.foldl_cons, fold_set vs (k + 1) o _ (by simp; omega)]
    apply List.ext_getElem?
    intro i
    rw [setR_get _ _ _ (by simp; omega), setR_get _ _ _ (by simp; omega)]
    simp only [Array.toList_setIfInBounds, List.length_cons]
    by_cases h1 : i < o + k
    · rw [if_pos (by omega), if_pos h1, List.getElem?_set, if_neg (by omega)]
    · by_cases h2 : i = o + k
      · subst h2
        rw [if_pos (by omega), if_neg (by omega), if_pos (by omega), Nat.sub_self, List.getElem?_cons_zero, List.getElem?_set, if_pos rfl, if_pos (by simp; omega)]
      · rw [if_neg (by omega), if_neg h1]
        by_cases h3 : i < o + (k + 1) + vs.length
        · rw [if_pos h3, if_pos (by omega), show i - (o + k) = (i - (o + (k + 1))) + 1 by omega, List.getElem?_cons_succ]
        · rw [if_neg h3, if_neg (by omega), List.getElem?_set, if_neg (by omega)]
theorem concs_setR {E : Env} {l vs : List AV} {o : Nat} {ds es : List Value} (h1 : concs E l = some ds) (h2 : concs E vs = some es) : concs E (setR l o vs) = some (setR ds o es) := by
  unfold setR
  rw [concs_length h2]
  exact concs_append (concs_take o h1) (concs_append h2 (concs_drop _ h1))
theorem fill_sound {E : Env} {place : Nat → Option (Nat × Nat)} : ∀ {parts : List (Nat × AV)} {cells : List AV} {out : List AV} {ps : List (Nat × Value)} {ds : Array Value}, fillA place cells parts = some out →
    parts.length = ps.length → (∀ (j i : Nat) (v : AV), parts[j]? = some (i, v) → ∃ c, ps[j]? = some (i, c) ∧ conc E v = some c) → concs E cells = some ds.toList →
    ∃ es, Instr.fill place ds ps = some es ∧ concs E out = some es.toList
  | [], cells, out, ps, ds, h, hl, _, hc => by
    obtain rfl : ps = [] := by cases ps <;> simp_all
    simp only [fillA, Option.some.injEq] at h
    subst h
    exact ⟨ds, rfl, hc⟩
  | (i, v) :: rest, cells, out, ps, ds, h, hl, hp, hc => by
    obtain ⟨c, h1, h2⟩ := hp 0 i v rfl
    cases ps with
    | nil => cases h1
    | cons p ps =>
      simp only [List.getElem?_cons_zero, Option.some.injEq] at h1
      subst h1
      unfold fillA at h
      unfold Instr.fill
      split at h
      · cases h
      · next o s hpl =>
        rw [hpl]
        cases hb : (Nat.beq v.cells.length s && Nat.ble (o + v.cells.length) cells.length) with
        | false => rw [hb] at h; cases h
        | true =>
          rw [hb] at h
          simp only [cond_true] at h
          rw [Bool.and_eq_true] at hb
          have b1 := beq_eq hb.1
          have b2 := ble_le hb.2
          have hcc := cells_conc h2
          have e1 : c.cells.size = v.cells.length := by have := concs_length hcc; simpa using this
          have e2 : ds.size = cells.length := by have := concs_length hc; simpa using this
          have e3 : (c.cells.size ≠ s || o + c.cells.size > ds.size) = false := by
            rw [e1, e2]; simp; omega
          simp only
          rw [if_neg (by rw [e3]; decide)]
          refine fill_sound h (by simpa using hl) (fun j i' v' hj => ?_) ?_
          · have := hp (j + 1) i' v' (by simpa using hj)
            simpa using this
          · have := fold_set c.cells.toList 0 o ds (by simp; omega)
            rw [← Array.foldl_toList, Array.toList_zipIdx, this, Nat.add_zero]
            exact concs_setR hc hcc
end Go.Proofs.YtopbojifllnckaaGreatDoor
