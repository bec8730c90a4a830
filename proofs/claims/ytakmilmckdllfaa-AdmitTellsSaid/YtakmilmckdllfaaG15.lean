/-
A region that draws has the outcome of the text's order.
-/
import Derived.Test.YtakmilmckdllfaaG14
set_option linter.unusedVariables false
set_option linter.unusedSimpArgs false
namespace Go.Proofs.Ytakmilmckdllfaa.G

section
variable {P : Program} {ops : Array Oper} {p : Nat} {sw : Option (Nat × Nat)} {env : Nat → List AV} {mem : Nat → Mem} {val : Nat → AV} {done : Nat → Bool}

def Listed (ops : Array Oper) (listed : Array Bool) (i : Nat) : Prop := i < ops.size ∧ listed[i]? = some true

theorem Stand.congr {S S' : Nat → Prop} {g0 g : Gh} {w0 w : World} {tmps : Array Value} {M0 : Mem} (h : Stand ops env mem S g0 w0 g w tmps M0) (he : ∀ i, S i ↔ S' i) : Stand ops env mem S' g0 w0 g w tmps M0 := by
  have : S = S' := funext fun i => propext (he i)
  rw [← this]; exact h

/-- What has been carried out of the operations that hang on memory. -/
def Ctl (ops : Array Oper) (p : Nat) (sw : Option (Nat × Nat)) (mem : Nat → Mem) (mS : Mem) (done : Nat → Bool) (S : Nat → Prop) (M : Mem) : Prop := (∃ c, CtlN ops p mem done S c M) ∨ ∃ a b, sw = some (a, b) ∧ CtlS ops p mS done S a b M
theorem Ctl.congr {mS M : Mem} {S S' : Nat → Prop} (h : Ctl ops p sw mem mS done S M) (he : ∀ i, S i ↔ S' i) : Ctl ops p sw mem mS done S' M := by
  have : S = S' := funext fun i => propext (he i)
  rw [← this]; exact h
theorem Ctl.quiet {mS M : Mem} {S : Nat → Prop} (h : Ctl ops p sw mem mS done S M) {i : Nat} (hi : ¬ Loud ops done i) : Ctl ops p sw mem mS done (fun k => S k ∨ k = i) M := by
  rcases h with ⟨c, h⟩ | ⟨a, b, hs, h⟩
  · refine .inl ⟨c, h.cLow, fun k h1 h2 h3 => ?_, fun k h1 h2 h3 => .inl (h.cDone k h1 h2 h3), fun h1 k h2 h3 => .inl (h.cAll h1 k h2 h3), h.memEq⟩
    rcases h3 with h3 | h3
    · exact h.cHigh k h1 h2 h3
    · subst h3; exact hi h2
  · refine .inr ⟨a, b, hs, h.low, fun k h1 h2 h3 h4 => ?_, fun k h1 h2 => .inl (h.all k h1 h2), h.lb, h.la, .inl h.has, h.memEq⟩
    rcases h4 with h4 | h4
    · exact h.high k h1 h2 h3 h4
    · subst h4; exact hi h3

theorem Course.range (hc : Course P ops p sw env mem val done) {a b : Nat} (h : a ≤ b) (hb : b ≤ ops.size) : (mem a).boxes.length ≤ (mem b).boxes.length ∧ (mem a).rows.length ≤ (mem b).rows.length := hc.mono b h hb

theorem draw_walk (hc : Course P ops p sw env mem val done) (hd : drawOk ops p sw = true) {g0 : Gh} {w0 : World} {ds : List Deferred} (hm0 : MemOk g0 (mem 0) w0) (hp : p ≤ ops.size) (ro : Option Nat) {Q : Exit → Act → World → Prop} (hQ : ∀ a' w', a'.defers = ds → (∃ g', Step g0 (mem 0) g' (mem ops.size) w0 w' ∧ MemOk g' (mem ops.size) w' ∧ Reps g' w' (env ops.size) a'.tmps) → Q .normal a' w')  {mS : Mem} (hmS : ∀ a b, sw = some (a, b) → ∀ oa ob, ops[a]? = some oa → ops[b]? = some ob → Loud ops done a → Loud ops done b →
    AOp P ob (env b) (mem a) (val b) mS ∧ AOp P oa (env a) mS (val a) (mem (b + 1)) ∧ mS.boxes.length = (mem a).boxes.length ∧ mS.rows.length = (mem a).rows.length ∧ (mem (b + 1)).boxes.length = (mem a).boxes.length ∧ (mem (b + 1)).rows.length = (mem a).rows.length) :
    ∀ (fuel : Nat) (listed : Array Bool) (act : Act) (g : Gh) (w : World) (M : Mem),
    listed.size = ops.size → listed.toList.countP (· == false) = fuel → act.defers = ds → Stand ops env mem (Listed ops listed) g0 w0 g w act.tmps M → Ctl ops p sw mem mS done (Listed ops listed) M →
    wpAnyIn (Fw ro) 0 P .any ops Q fuel listed act w := by
  intro fuel
  induction fuel with
  | zero =>
    intro listed act g w M hl hcount hds h hctl
    have hall : ∀ i, i < ops.size → Listed ops listed i := by
      intro i hi
      refine ⟨hi, ?_⟩
      have h1 : listed[i]? = some listed[i] := Array.getElem?_eq_getElem (by omega)
      rw [h1]
      have h2 := List.countP_eq_zero.1 hcount listed[i] (by simp)
      simpa using h2
    have hmem : mem ops.size = M := by
      rcases hctl with ⟨c, hn⟩ | ⟨a, b, hs, hk⟩
      · have hquiet : ∀ i, c ≤ i → i < ops.size → ¬ Loud ops done i := fun i h1 h2 h3 => hn.cHigh i h1 h3 (hall i h2)
        rw [hn.memEq]
        exact hc.still ops.size hn.cLow.2 (Nat.le_refl _) hquiet
      · have := hk.low
        exact absurd (hall a (by omega)) (hk.high a (Nat.le_refl _) (by omega) hk.la)
    refine ⟨?_, hQ _ _ hds ⟨g, by rw [hmem]; exact h.step, by rw [hmem]; exact h.memOk, ?_⟩⟩
    · apply List.filter_eq_nil_iff.2
      intro i hi
      simp only [List.mem_range] at hi
      have := (hall i hi).2
      simp [this]
    · refine ⟨by rw [h.size, hc.len _ (Nat.le_refl _)], fun t a v ha hv => ?_⟩
      have ht : t < (env 0).length := by rw [← hc.len ops.size (Nat.le_refl _)]; exact (List.getElem?_eq_some_iff.1 ha).1
      obtain ⟨k, hk, hw, hrep⟩ := h.slots t ht
      refine hrep a v ?_ hv
      rw [← ha]
      exact (hc.between ops.size hk (Nat.le_refl _) (fun i o h1 h2 ho hod => by
        have := (hw i o ho hod).1 (hall i h2); omega)).symm
  | succ fuel ih =>
    intro listed act g w M hl hcount hds h hctl
    refine ⟨fun hnil => ?_, fun i hi => ?_⟩
    · exfalso
      have hex : ∃ i, i < ops.size ∧ listed[i]? = some false := by
        have h1 : 0 < listed.toList.countP (· == false) := by omega
        obtain ⟨b, hb, hbf⟩ := List.countP_pos_iff.1 h1
        obtain ⟨i, hi, he⟩ := List.getElem_of_mem hb
        have hi' : i < listed.size := by simpa using hi
        refine ⟨i, by omega, ?_⟩
        rw [Array.getElem?_eq_getElem hi']
        have : listed[i] = b := by simpa using he
        rw [this]; simpa using hbf
      -- the first that is not listed is ready
      have key : ∀ n, ∀ i, i ≤ n → i < ops.size → listed[i]? = some false → False := by
        intro n
        induction n with
        | zero =>
          intro i hi0 hi1 hi2
          have : i = 0 := by omega
          subst this
          have hr : (0 : Nat) ∈ Region.ready .any ops listed := by
            simp only [Region.ready, List.mem_filter, List.mem_range]
            refine ⟨hi1, ?_⟩
            have ho : ops[0]? = some ops[0] := Array.getElem?_eq_getElem hi1
            simp only [Array.getD_eq_getD_getElem?, hi2, ho, Option.map_some, Option.getD_some, Bool.not_false, Bool.true_and]
            rw [Array.all_eq_true_iff_forall_mem]
            intro e he
            cases hb : Region.binds .any e with
            | false => simp
            | true => have := (drawOk_spec hd).1 0 _ ho e he hb; omega
          rw [hnil] at hr; cases hr
        | succ n ihn =>
          intro i hi0 hi1 hi2
          have hr : i ∈ Region.ready .any ops listed := by
            simp only [Region.ready, List.mem_filter, List.mem_range]
            refine ⟨hi1, ?_⟩
            have ho : ops[i]? = some ops[i] := Array.getElem?_eq_getElem hi1
            simp only [Array.getD_eq_getD_getElem?, hi2, ho, Option.map_some, Option.getD_some, Bool.not_false, Bool.true_and]
            rw [Array.all_eq_true_iff_forall_mem]
            intro e he
            cases hb : Region.binds .any e with
            | false => simp
            | true =>
              have hlt := (drawOk_spec hd).1 i _ ho e he hb
              have h1 : listed[e.on]? = some listed[e.on] := Array.getElem?_eq_getElem (by omega)
              cases hv : listed[e.on] with
              | true => rw [h1, hv]; simp
              | false => exact (ihn e.on (by omega) (by omega) (by rw [h1, hv])).elim
          rw [hnil] at hr; cases hr
      obtain ⟨i, h1, h2⟩ := hex
      exact key i i (Nat.le_refl _) h1 h2
    · simp only [Region.ready, List.mem_filter, List.mem_range] at hi
      obtain ⟨hi, hrd⟩ := hi
      have ho : ops[i]? = some ops[i] := Array.getElem?_eq_getElem hi
      generalize ops[i] = o at ho
      have hli : listed[i]? = some listed[i] := Array.getElem?_eq_getElem (by omega)
      simp only [Array.getD_eq_getD_getElem?, hli, ho, Option.map_some, Option.getD_some, Bool.and_eq_true, Bool.not_eq_true'] at hrd
      obtain ⟨hlf, hrd⟩ := hrd
      have hn : ¬ Listed ops listed i := by
        rintro ⟨_, h2⟩; rw [hli, hlf] at h2; cases h2
      have hr : ∀ e ∈ o.after, Region.binds .any e = true → Listed ops listed e.on := by
        intro e he hb
        have hlt := (drawOk_spec hd).1 i o ho e he hb
        have h2 := (Array.all_eq_true_iff_forall_mem.1 hrd) e he
        have h1 : listed[e.on]? = some listed[e.on] := Array.getElem?_eq_getElem (by omega)
        rw [hb, h1] at h2
        refine ⟨by omega, ?_⟩
        rw [h1]; simpa using h2
      have hS : ∀ k, (Listed ops listed k ∨ k = i) ↔ Listed ops (listed.setIfInBounds i true) k := by
        intro k
        simp only [Listed, Array.getElem?_setIfInBounds]
        by_cases e : i = k
        · subst e
          have : i < listed.size := by omega
          simp [hi, this]
        · rw [if_neg e]
          constructor
          · rintro (h | h)
            · exact h
            · exact absurd h.symm e
          · exact fun h => .inl h
      have hcnt : (listed.setIfInBounds i true).toList.countP (· == false) = fuel := by
        have hi' : i < listed.toList.length := by simp; omega
        have h1 := List.countP_set (p := (· == false)) (l := listed.toList) (i := i) (a := true) hi'
        rw [Array.toList_setIfInBounds, h1, hcount]
        have : listed.toList[i] = false := by simpa using hlf
        simp [this]
      have hgo : ∀ (v : Value) (g1 : Gh) (w1 : World) (M1 : Mem), Stand ops env mem (fun k => Listed ops listed k ∨ k = i) g0 w0 g1 w1 (act.put o.dst v).tmps M1 → Ctl ops p sw mem mS done (fun k => Listed ops listed k ∨ k = i) M1 →
          wpAnyIn (Fw ro) 0 P .any ops Q fuel (listed.setIfInBounds i true) (act.put o.dst v) w1 := by
        intro v g1 w1 M1 h1 h2
        refine ih _ _ g1 w1 M1 (by simp [hl]) hcnt ?_ (h1.congr hS) (h2.congr hS)
        rw [← hds]; cases o.dst <;> rfl
      have hwant := h.want hc hd ho hr hn
      simp only [wpOpIn, ho]
      cases hdn : done i with
      | false =>
        rw [hdn] at hwant
        rw [if_neg (by rw [hwant]; simp)]
        obtain ⟨hv, _⟩ := hc.skip i o ho hdn
        have hnl : ¬ Loud ops done i := by rintro ⟨_, _, h2, _⟩; rw [hdn] at h2; cases h2
        refine ⟨fun f _ => trivial, hgo Go.undef g w M ?_ (hctl.quiet hnl)⟩
        exact h.next hc hd ho hr hn (v := Go.undef) h.memOk (Step.refl g M w) (by rw [hv]; exact .tuple [] #[] rfl (fun j c v h => by simp at h)) (fun k _ _ => .inr (.inr ⟨rfl, rfl⟩)) h.memOk h.step
      | true =>
        rw [hdn] at hwant
        rw [if_pos hwant]
        cases hpu : opPure o.op with
        | true =>
          have ha := hc.pure i o ho hdn hpu
          have hop := aop_ok (o := o) ((pure_indep hpu ha).2 M)
          refine uponIn_of (hop.2 g w act.eval (fun _ => rfl) (fun _ => rfl) ⟨fun l a b => by omega, fun l a b => by omega⟩ h.memOk (h.repE hc hd ho hr hn)) ?_
          rintro v w1 ⟨g1, hs1, hm1, hr1⟩
          have hnl : ¬ Loud ops done i := by rintro ⟨x, hx, h2, h3⟩; rw [ho] at hx; injection hx with hx; subst hx; rw [hpu] at h3; cases h3
          refine hgo v g1 w1 M ?_ (hctl.quiet hnl)
          exact h.next hc hd ho hr hn (v := v) h.memOk hs1 hr1 (fun k _ _ => .inr (.inr ⟨rfl, rfl⟩)) hm1 (h.step.trans hs1 hm0)
        | false =>
          have hloud : Loud ops done i := ⟨o, ho, hdn, hpu⟩
          obtain ⟨hop, hext, _⟩ := hc.loud i o ho hdn hpu
          have hfree := h.free i hi hn
          have hahead : ∀ k, k < i → p ≤ i → Loud ops done k → sw ≠ some (k, i) → Listed ops listed k := by
            rintro k hk hip ⟨x, hx, hdx, hpx⟩ hsw
            rcases ((drawOk_spec hd).2 k i x o hx ho hk).2 hip hpx hpu with h1 | h1
            · exact ahead_done h.closed i o ho hr k h1
            · exact absurd h1 hsw
          have hrange : ∀ k, k < ops.size → k ≠ i → (mem (k + 1)).boxes.length ≤ (mem i).boxes.length ∧ (mem (k + 1)).rows.length ≤ (mem i).rows.length ∨ (mem (i + 1)).boxes.length ≤ (mem k).boxes.length ∧ (mem (i + 1)).rows.length ≤ (mem k).rows.length ∨ ((mem i).boxes.length = (mem (i + 1)).boxes.length ∧ (mem i).rows.length = (mem (i + 1)).rows.length) := by
            intro k hk hki
            rcases Nat.lt_or_ge k i with h1 | h1
            · exact .inl (hc.range (by omega) (by omega))
            · exact .inr (.inl (hc.range (by omega) (by omega)))
          rcases hctl with ⟨c, hctl⟩ | ⟨a, b, hsw, hctl⟩
          · have hcu : ∀ k, Loud ops done k → c ≤ k → (Listed ops listed k ∨ k = i) → k = i := by
              intro k h1 h2 h3
              rcases h3 with h3 | h3
              · exact absurd h3 (hctl.cHigh k h2 h1)
              · exact h3
            have hMc := hctl.memEq
            subst hMc
            rcases Nat.lt_or_ge i p with hip | hip
            · -- what was there stays
              have hcp : c = p := by
                rcases Nat.lt_or_ge p c with h1 | h1
                · exact absurd (hctl.cAll h1 i hip hloud) hn
                · have := hctl.cLow.1; omega
              subst hcp
              have he1 : Ext (mem i) (mem (i + 1)) := hext hip
              have he2 : Ext (mem (i + 1)) (mem c) := hc.ext c (by omega) (Nat.le_refl _) hp
              have hmk : MemOk g (mem i) w := h.memOk.less (he1.trans he2)
              refine uponIn_of (hop.2 g w act.eval (fun _ => rfl) (fun _ => rfl) hfree hmk (h.repE hc hd ho hr hn)) ?_
              rintro v w1 ⟨g1, hs1, hm1, hr1⟩
              refine hgo v g1 w1 (mem c) ?_ (.inl ⟨c, hctl.cLow, fun k h1 h2 h3 => ?_, fun k h1 h2 h3 => .inl (hctl.cDone k h1 h2 h3), fun h1 k h2 h3 => by omega, rfl⟩)
              · exact h.next hc hd ho hr hn (v := v) hmk hs1 hr1 hrange (h.memOk.more he1 he2 hs1 hm1) (h.step.within hs1 hm0 (hc.mono i (by omega) (by omega)) (hc.mono c (by omega) hp))
              · have := hcu k h2 h1 h3; subst this; omega
            · by_cases hsk : ∃ a, sw = some (a, i) ∧ Loud ops done a ∧ ¬ Listed ops listed a
              · -- the later one of the pair comes first
                obtain ⟨a, hsw, hla, hna⟩ := hsk
                subst hsw
                obtain ⟨hai, hpa, hbet⟩ := drawOk_swap hd
                have hca : c ≤ a := by
                  rcases Nat.lt_or_ge a c with h1 | h1
                  · exact absurd (hctl.cDone a hpa h1 hla) hna
                  · exact h1
                have hle : ∀ k, k < a → Loud ops done k → Listed ops listed k := fun k h1 h2 => hahead k (by omega) hip h2 (fun e => by injection e with e; injection e with e; omega)
                have hma : mem a = mem c := hc.still a hca (by omega) (fun k h1 h2 h3 => hctl.cHigh k h1 h3 (hle k h2 h3))
                have hla0 := hla
                obtain ⟨oa, hoa, _⟩ := hla0
                obtain ⟨hop2, _, l1, l2, l3, l4⟩ := hmS a i rfl oa o hoa ho hla hloud
                rw [hma] at hop2 l1 l2
                refine uponIn_of (hop2.2 g w act.eval (fun _ => rfl) (fun _ => rfl) ⟨fun l h1 h2 => by omega, fun l h1 h2 => by omega⟩ h.memOk (h.repE hc hd ho hr hn)) ?_
                rintro v w1 ⟨g1, hs1, hm1, hr1⟩
                refine hgo v g1 w1 mS ?_ (.inr ⟨a, i, rfl, ⟨hpa, hai, hi⟩, fun k h1 h2 h3 h4 => ?_, fun k h1 h2 => .inl (hle k h1 h2), hloud, hla, .inr rfl, rfl⟩)
                · exact h.next hc hd ho hr hn (v := v) h.memOk hs1 hr1 (fun k _ _ => .inr (.inr ⟨l1.symm, l2.symm⟩)) hm1 (h.step.trans hs1 hm0)
                · rcases h4 with h4 | h4
                  · exact hctl.cHigh k (by omega) h3 h4
                  · exact h2 h4
              · -- all that hangs on memory has come before
                have hbefore : ∀ k, k < i → Loud ops done k → Listed ops listed k := by
                  intro k hk hlk
                  by_cases e : sw = some (k, i)
                  · by_cases hlk2 : Listed ops listed k
                    · exact hlk2
                    · exact absurd ⟨k, e, hlk, hlk2⟩ hsk
                  · exact hahead k hk hip hlk e
                have hci : c ≤ i := by
                  rcases Nat.lt_or_ge i c with h1 | h1
                  · exact absurd (hctl.cDone i hip h1 hloud) hn
                  · exact h1
                have hmc : mem i = mem c := hc.still i hci (by omega) (fun k h1 h2 h3 => hctl.cHigh k h1 h3 (hbefore k h2 h3))
                have hmk : MemOk g (mem i) w := by rw [hmc]; exact h.memOk
                refine uponIn_of (hop.2 g w act.eval (fun _ => rfl) (fun _ => rfl) hfree hmk (h.repE hc hd ho hr hn)) ?_
                rintro v w1 ⟨g1, hs1, hm1, hr1⟩
                refine hgo v g1 w1 (mem (i + 1)) ?_ (.inl ⟨i + 1, ⟨by omega, by omega⟩, fun k h1 h2 h3 => ?_, fun k h1 h2 h3 => ?_, fun h1 k h2 h3 => .inl (hbefore k (by omega) h3), rfl⟩)
                · have h5 := h.step
                  rw [← hmc] at h5
                  exact h.next hc hd ho hr hn (v := v) hmk hs1 hr1 hrange hm1 (h5.trans hs1 hm0)
                · rcases h3 with h3 | h3
                  · exact hctl.cHigh k (by omega) h2 h3
                  · omega
                · rcases Nat.eq_or_lt_of_le (Nat.le_of_lt_succ h2) with h4 | h4
                  · exact .inr h4
                  · exact .inl (hbefore k h4 h3)
          · -- the earlier one of the pair comes last
            subst hsw
            obtain ⟨hab, hpa, hbet⟩ := drawOk_swap hd
            have hMc := hctl.memEq
            subst hMc
            have hia : i = a := by
              rcases Nat.lt_or_ge i a with h1 | h1
              · exact absurd (hctl.all i h1 hloud) hn
              · rcases Nat.eq_or_lt_of_le h1 with h2 | h2
                · exact h2.symm
                · exfalso
                  have hib : i ≠ b := by rintro rfl; exact hn hctl.has
                  rcases Nat.lt_or_ge i b with h3 | h3
                  · have := hbet i o h2 h3 ho; rw [hpu] at this; cases this
                  · exact hctl.high a (Nat.le_refl _) (by omega) hctl.la (hahead a h2 (by omega) hctl.la (fun e => by injection e with e; injection e with e1 e2; exact hib e2.symm))
            subst hia
            obtain ⟨ob, hob, _⟩ := hctl.lb
            obtain ⟨_, hop2, l1, l2, l3, l4⟩ := hmS i b rfl o ob ho hob hloud hctl.lb
            refine uponIn_of (hop2.2 g w act.eval (fun _ => rfl) (fun _ => rfl) ⟨fun l h1 h2 => by omega, fun l h1 h2 => by omega⟩ h.memOk (h.repE hc hd ho hr hn)) ?_
            rintro v w1 ⟨g1, hs1, hm1, hr1⟩
            have hlow := hctl.low
            refine hgo v g1 w1 (mem (b + 1)) ?_ (.inl ⟨b + 1, ⟨by omega, by omega⟩, fun k h1 h2 h3 => ?_, fun k h1 h2 h3 => ?_, fun h1 k h2 h3 => .inl (hctl.all k (by omega) h3), rfl⟩)
            · exact h.next hc hd ho hr hn (v := v) h.memOk hs1 hr1 (fun k _ _ => .inr (.inr ⟨by omega, by omega⟩)) hm1 (h.step.trans hs1 hm0)
            · rcases h3 with h3 | h3
              · exact hctl.high k (by omega) (by omega) h2 h3
              · omega
            · rcases Nat.lt_trichotomy k i with h4 | h4 | h4
              · exact .inl (hctl.all k h4 h3)
              · exact .inr h4
              · rcases Nat.eq_or_lt_of_le (Nat.le_of_lt_succ h2) with h5 | h5
                · subst h5; exact .inl hctl.has
                · obtain ⟨o', ho', _, hp'⟩ := h3
                  have := hbet k o' h4 h5 ho'
                  rw [hp'] at this; cases this

/-- **A region that draws.** -/
theorem AExec.draw {lo : Option Nat} {id : Nat} {env0 env' : List AV} {m0 m' : Mem} (hmix : P.follows .mixedOrders = true) (hp : p ≤ ops.size) (hd : drawOk ops p sw = true) (h : AOpsD P ops p sw 0 ops.toList env0 m0 env' m') : AExec P lo (.region id ops true) env0 m0 .normal env' m' := by
  obtain ⟨env, mem, val, done, rfl, rfl, h3, h4, h5⟩ := h.course
  simp only [Nat.zero_add, Array.length_toList] at h3 h4 h5
  have hc : Course P ops p sw env mem val done := by
    refine ⟨fun k o ho => ?_, fun k o ho => ?_, fun k o ho => ?_, fun k o ho => ?_, fun k o ho => ?_⟩
    · exact (h5 k o (by simpa using ho)).1
    · exact (h5 k o (by simpa using ho)).2.1
    · exact (h5 k o (by simpa using ho)).2.2.1
    · exact (h5 k o (by simpa using ho)).2.2.2.1
    · exact (h5 k o (by simpa using ho)).2.2.2.2
  subst h3 h4
  refine ⟨hc.mono ops.size (Nat.zero_le _) (Nat.le_refl _), fun ro g w a hro hf hm he => wpIn_region_any hmix ?_⟩
  have hs0 : Step g (mem 0) g (mem 0) w w.drew := drew_step
  have hm0 : MemOk g (mem 0) w.drew := drew_mem hm
  have hext : Ext (mem 0) (mem p) := hc.ext p (Nat.zero_le _) (Nat.le_refl _) hp
  have hmono : Mono (mem p) (mem ops.size) := hc.mono ops.size hp (Nat.le_refl _)
  have hmp : MemOk g (mem p) w.drew := { hm0 with
    boxOk := fun l b c hb hc' => by
      rcases Nat.lt_or_ge l (mem 0).boxes.length with h1 | h1
      · exact hm0.boxOk l b c hb (by rw [← hext.box h1]; exact hc')
      · have h2 := (List.getElem?_eq_some_iff.1 hc').1
        have := hmono.1
        rw [hf.1 l h1 (by omega)] at hb; cases hb
    rowLive := fun l n hn hne => by
      rcases Nat.lt_or_ge l (mem 0).rows.length with h1 | h1
      · exact hm0.rowLive l n (by rw [← hext.row h1]; exact hn) hne
      · have h2 := (List.getElem?_eq_some_iff.1 hn).1
        have := hmono.2
        exact absurd (hf.2 l h1 (by omega)) hne
    rowOk := fun l b n cs hb hc' => by
      rcases Nat.lt_or_ge l (mem 0).rows.length with h1 | h1
      · exact hm0.rowOk l b n cs hb (by rw [← hext.row h1]; exact hc')
      · have h2 := (List.getElem?_eq_some_iff.1 hc').1
        have := hmono.2
        rw [hf.2 l h1 (by omega)] at hb; cases hb }
  have hsp : Step g (mem 0) g (mem p) w w.drew := { hs0 with
    boxes := hext.mono.1
    rows := hext.mono.2
    freshBox := fun l h1 h2 => hf.1 l h1 (Nat.lt_of_lt_of_le h2 hmono.1)
    freshRow := fun l h1 h2 => hf.2 l h1 (Nat.lt_of_lt_of_le h2 hmono.2)
    boxOld := fun _ _ => rfl
    rowOut := fun _ _ => ⟨rfl, rfl⟩
    rowNew := fun l b h1 h2 hb => by rw [hf.2 l h1 (Nat.lt_of_lt_of_le h2 hmono.2)] at hb; cases hb }
  have hno : ∀ i, ¬ Listed ops (Array.replicate ops.size false) i := by
    rintro i ⟨h1, h2⟩
    simp [Array.getElem?_replicate, h1] at h2
  have hstand : Stand ops env mem (Listed ops (Array.replicate ops.size false)) g w g w.drew a.tmps (mem p) := by
    refine ⟨fun i o hi => absurd hi (hno i), he.1, fun t ht => ⟨0, Nat.zero_le _, fun i o _ _ => ⟨fun h => absurd h (hno i), fun h => by omega⟩, fun x v hx hv => (he.2 t x v hx hv).step hm hs0⟩, fun j hj _ => ?_, hmp, hsp⟩
    have h1 := hc.mono j (Nat.zero_le _) (by omega)
    have h2 := hc.mono (a := j + 1) ops.size (by omega) (Nat.le_refl _)
    exact ⟨fun l h3 h4 => hf.1 l (Nat.le_trans h1.1 h3) (Nat.lt_of_lt_of_le h4 h2.1), fun l h3 h4 => hf.2 l (Nat.le_trans h1.2 h3) (Nat.lt_of_lt_of_le h4 h2.2)⟩
  obtain ⟨mS, hmS⟩ := hc.swap hd
  refine draw_walk hc hd (ds := a.defers) hm hp ro ?_ hmS ops.size (Array.replicate ops.size false) a g w.drew (mem p) (by simp) (by simp [List.countP_replicate]) rfl hstand (.inl ⟨p, ⟨Nat.le_refl _, hp⟩, fun i _ _ h => hno i h, fun i h1 h2 => by omega, fun h => by omega, rfl⟩)
  rintro a' w' hd' ⟨g', hs', hm', he'⟩
  exact ⟨rfl, g', [], by simpa using hd', .nil, hs', hm', he'⟩
end
end Go.Proofs.Ytakmilmckdllfaa.G
