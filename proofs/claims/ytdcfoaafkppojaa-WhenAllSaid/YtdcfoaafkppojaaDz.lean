/- The last of the printed texts. -/
import Derived.Test.YtdcfoaafkppojaaD6
