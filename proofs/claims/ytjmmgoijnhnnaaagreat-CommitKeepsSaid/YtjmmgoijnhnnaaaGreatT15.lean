/- Words for slices of structs: their cells as one flat list. -/
import Derived.Test.YtjmmgoijnhnnaaaGreatT14
