/-
  DERIVED. GIVEN WITH THE SEED: THE CARDS: each row of YtkmpjokcpboloaaGreatDoorRows.lean that lists a variable, with what it lists TIED to the program's text (the seventh form; the later family's looks); each row that meets fmt, with fmt's text TOLD by the authors' own Lean function (tested against real Go, not proved from fmt's source: count such statements apart). THE CARD IS WHAT COUNTS. Prove the row's statement (the work); the ties are given (YtkmpjokcpboloaaGreatDoorTie.lean); close each card by the builder's one call (the guide's Derived/Test/ToyasCard.lean, 'card_holds'). Laid BY PROGRAM, IN A SANDBOX (cutbox-door.mjs). By AI agents, Wed Nov 11 2026. No macro, syntax, notation, axiom, sorry.
-/
import Derived.Test.YtkmpjokcpboloaaGreatDoorRows
import GoSem.ClaimSeven
namespace Go.Proofs.YtkmpjokcpboloaaGreatDoor
namespace Rows

/-- THE TIED CARD OF 'vidimuslaw42.CachesPlay'. -/
def cachesPlayCard : Claim7 := { stood := { row := cachesPlayRow, standIns := [], harness := (true, "3bec23ef8a29218fba651fdc6f1fca79c52d6c989b7619e7477672fceffc284d"), looks := true }, kinds := [], alts := [], laidByText := true, laidKinds := [.data, .data, .data, .data, .data, .widerDeep, .pinned], laidTests := true, laidLooks := .later }
def CachesPlayCardSaid : Prop := Claim7.holds Tryz.pinned (.plain (OpenSpec.ofChange cachesPlaySpec)) cachesPlayCard

/-- THE TIED CARD OF 'vidimuslaw42.CachesNew'. -/
def cachesNewCard : Claim7 := { stood := { row := cachesNewRow, standIns := [], harness := (true, "3bec23ef8a29218fba651fdc6f1fca79c52d6c989b7619e7477672fceffc284d"), looks := true }, kinds := [], alts := [], laidByText := true, laidKinds := [.data, .data, .data, .data, .data, .widerDeep, .pinned], laidTests := true, laidLooks := .later }
def CachesNewCardSaid : Prop := Claim7.holds Tryz.pinned (.plain (OpenSpec.ofChange cachesNewSpec)) cachesNewCard

/-- THE TIED CARD OF 'vidimuslaw42.CachesNil'. -/
def cachesNilCard : Claim7 := { stood := { row := cachesNilRow, standIns := [], harness := (true, "3bec23ef8a29218fba651fdc6f1fca79c52d6c989b7619e7477672fceffc284d"), looks := true }, kinds := [], alts := [], laidByText := true, laidKinds := [.data, .data, .data, .data, .data, .widerDeep, .pinned], laidTests := true, laidLooks := .later }
def CachesNilCardSaid : Prop := Claim7.holds Tryz.pinned (.plain (OpenSpec.ofChange cachesNilSpec)) cachesNilCard

/-- THE TIED CARD OF 'vidimuslaw42.CachesErrors'. -/
def cachesErrorsCard : Claim7 := { stood := { row := cachesErrorsRow, standIns := [], harness := (true, "3bec23ef8a29218fba651fdc6f1fca79c52d6c989b7619e7477672fceffc284d"), looks := true }, kinds := [], alts := [], laidByText := true, laidKinds := [.data, .data, .data, .data, .data, .widerDeep, .pinned], laidTests := true, laidLooks := .later }
def CachesErrorsCardSaid : Prop := Claim7.holds Tryz.pinned (.plain (OpenSpec.ofChange cachesErrorsSpec)) cachesErrorsCard

/-- THE TIED CARD OF 'vidimuslaw42.CachesSame'. -/
def cachesSameCard : Claim7 := { stood := { row := cachesSameRow, standIns := [], harness := (true, "3bec23ef8a29218fba651fdc6f1fca79c52d6c989b7619e7477672fceffc284d"), looks := true }, kinds := [], alts := [], laidByText := true, laidKinds := [.data, .data, .data, .data, .data, .widerDeep, .pinned], laidTests := true, laidLooks := .later }
def CachesSameCardSaid : Prop := Claim7.holds Tryz.pinned (.plain (OpenSpec.ofChange cachesSameSpec)) cachesSameCard

/-- THE TIED CARD OF 'vidimuslaw42.CachesOwn'. -/
def cachesOwnCard : Claim7 := { stood := { row := cachesOwnRow, standIns := [], harness := (true, "3bec23ef8a29218fba651fdc6f1fca79c52d6c989b7619e7477672fceffc284d"), looks := true }, kinds := [], alts := [], laidByText := true, laidKinds := [.data, .data, .data, .data, .data, .widerDeep, .pinned], laidTests := true, laidLooks := .later }
def CachesOwnCardSaid : Prop := Claim7.holds Tryz.pinned (.plain (OpenSpec.ofChange cachesOwnSpec)) cachesOwnCard

/-- THE TIED CARD OF 'vidimuslaw42.CachesOrder'. -/
def cachesOrderCard : Claim7 := { stood := { row := cachesOrderRow, standIns := [], harness := (true, "3bec23ef8a29218fba651fdc6f1fca79c52d6c989b7619e7477672fceffc284d"), looks := true }, kinds := [], alts := [], laidByText := true, laidKinds := [.data, .data, .data, .data, .data, .widerDeep, .pinned], laidTests := true, laidLooks := .later }
def CachesOrderCardSaid : Prop := Claim7.holds Tryz.pinned (.plain (OpenSpec.ofChange cachesOrderSpec)) cachesOrderCard

/-- THE TIED CARD OF 'vidimuslaw42.CachesKnown'. -/
def cachesKnownCard : Claim7 := { stood := { row := cachesKnownRow, standIns := [], harness := (true, "3bec23ef8a29218fba651fdc6f1fca79c52d6c989b7619e7477672fceffc284d"), looks := true }, kinds := [], alts := [], laidByText := true, laidKinds := [.data, .data, .data, .data, .data, .widerDeep, .pinned], laidTests := true, laidLooks := .later }
def CachesKnownCardSaid : Prop := Claim7.holds Tryz.pinned (.plain (OpenSpec.ofChange cachesKnownSpec)) cachesKnownCard

/-- THE SECOND FORM's CARD OF 'vidimuslaw42.CachesPlay'. -/
def cachesPlayUptoCard : Claim7 := { stood := { row := cachesPlayUptoRow, standIns := [], harness := (true, "3bec23ef8a29218fba651fdc6f1fca79c52d6c989b7619e7477672fceffc284d"), looks := true }, kinds := [], alts := [], laidByText := true, laidKinds := [.data, .data, .data, .data, .data, .widerDeep, .pinned], laidTests := true, laidLooks := .later }
def CachesPlayUptoCardSaid : Prop := Claim7.holds Tryz.pinned (.plain (OpenSpec.upto cachesPlaySpec)) cachesPlayUptoCard

/-- THE SECOND FORM's CARD OF 'vidimuslaw42.CachesNew'. -/
def cachesNewUptoCard : Claim7 := { stood := { row := cachesNewUptoRow, standIns := [], harness := (true, "3bec23ef8a29218fba651fdc6f1fca79c52d6c989b7619e7477672fceffc284d"), looks := true }, kinds := [], alts := [], laidByText := true, laidKinds := [.data, .data, .data, .data, .data, .widerDeep, .pinned], laidTests := true, laidLooks := .later }
def CachesNewUptoCardSaid : Prop := Claim7.holds Tryz.pinned (.plain (OpenSpec.upto cachesNewSpec)) cachesNewUptoCard

/-- THE SECOND FORM's CARD OF 'vidimuslaw42.CachesNil'. -/
def cachesNilUptoCard : Claim7 := { stood := { row := cachesNilUptoRow, standIns := [], harness := (true, "3bec23ef8a29218fba651fdc6f1fca79c52d6c989b7619e7477672fceffc284d"), looks := true }, kinds := [], alts := [], laidByText := true, laidKinds := [.data, .data, .data, .data, .data, .widerDeep, .pinned], laidTests := true, laidLooks := .later }
def CachesNilUptoCardSaid : Prop := Claim7.holds Tryz.pinned (.plain (OpenSpec.upto cachesNilSpec)) cachesNilUptoCard

/-- THE SECOND FORM's CARD OF 'vidimuslaw42.CachesErrors'. -/
def cachesErrorsUptoCard : Claim7 := { stood := { row := cachesErrorsUptoRow, standIns := [], harness := (true, "3bec23ef8a29218fba651fdc6f1fca79c52d6c989b7619e7477672fceffc284d"), looks := true }, kinds := [], alts := [], laidByText := true, laidKinds := [.data, .data, .data, .data, .data, .widerDeep, .pinned], laidTests := true, laidLooks := .later }
def CachesErrorsUptoCardSaid : Prop := Claim7.holds Tryz.pinned (.plain (OpenSpec.upto cachesErrorsSpec)) cachesErrorsUptoCard

/-- THE SECOND FORM's CARD OF 'vidimuslaw42.CachesSame'. -/
def cachesSameUptoCard : Claim7 := { stood := { row := cachesSameUptoRow, standIns := [], harness := (true, "3bec23ef8a29218fba651fdc6f1fca79c52d6c989b7619e7477672fceffc284d"), looks := true }, kinds := [], alts := [], laidByText := true, laidKinds := [.data, .data, .data, .data, .data, .widerDeep, .pinned], laidTests := true, laidLooks := .later }
def CachesSameUptoCardSaid : Prop := Claim7.holds Tryz.pinned (.plain (OpenSpec.upto cachesSameSpec)) cachesSameUptoCard

/-- THE SECOND FORM's CARD OF 'vidimuslaw42.CachesOwn'. -/
def cachesOwnUptoCard : Claim7 := { stood := { row := cachesOwnUptoRow, standIns := [], harness := (true, "3bec23ef8a29218fba651fdc6f1fca79c52d6c989b7619e7477672fceffc284d"), looks := true }, kinds := [], alts := [], laidByText := true, laidKinds := [.data, .data, .data, .data, .data, .widerDeep, .pinned], laidTests := true, laidLooks := .later }
def CachesOwnUptoCardSaid : Prop := Claim7.holds Tryz.pinned (.plain (OpenSpec.upto cachesOwnSpec)) cachesOwnUptoCard

/-- THE SECOND FORM's CARD OF 'vidimuslaw42.CachesOrder'. -/
def cachesOrderUptoCard : Claim7 := { stood := { row := cachesOrderUptoRow, standIns := [], harness := (true, "3bec23ef8a29218fba651fdc6f1fca79c52d6c989b7619e7477672fceffc284d"), looks := true }, kinds := [], alts := [], laidByText := true, laidKinds := [.data, .data, .data, .data, .data, .widerDeep, .pinned], laidTests := true, laidLooks := .later }
def CachesOrderUptoCardSaid : Prop := Claim7.holds Tryz.pinned (.plain (OpenSpec.upto cachesOrderSpec)) cachesOrderUptoCard

/-- THE SECOND FORM's CARD OF 'vidimuslaw42.CachesKnown'. -/
def cachesKnownUptoCard : Claim7 := { stood := { row := cachesKnownUptoRow, standIns := [], harness := (true, "3bec23ef8a29218fba651fdc6f1fca79c52d6c989b7619e7477672fceffc284d"), looks := true }, kinds := [], alts := [], laidByText := true, laidKinds := [.data, .data, .data, .data, .data, .widerDeep, .pinned], laidTests := true, laidLooks := .later }
def CachesKnownUptoCardSaid : Prop := Claim7.holds Tryz.pinned (.plain (OpenSpec.upto cachesKnownSpec)) cachesKnownUptoCard
end Rows
end Go.Proofs.YtkmpjokcpboloaaGreatDoor
